import Derived.Test.YtlfehkoklgmjjaaF7


set_option linter.unusedVariables false
set_option linter.unusedSimpArgs false
set_option maxRecDepth 8000
set_option maxHeartbeats 4000000
namespace Go.Proofs.Ytlfehkoklgmjjaa
open Go.Eng
abbrev IsT : Ty := .slice (.int .i64)
/-- So many of one more, the others. -/
def rl (q : Int) (r k : Nat) : List Int := List.replicate r (q + 1) ++ List.replicate (k - r) q
def mst (n : Int) : Int := if 1048576 < n then 1048576 else n
def kOf (m : Int) : Nat := ((m - 1) / 6 + 1).toNat
def groups (n : Int) : List Int := if mst n < 1 then [] else rl (mst n / kOf (mst n)) (mst n % kOf (mst n)).toNat (kOf (mst n))
theorem rl_len {q : Int} {r k : Nat} (h : r ≤ k) : (rl q r k).length = k := by simp [rl]; omega
theorem rep_set {α : Type} {a b : α} {i k : Nat} (h : i < k) : (List.replicate i a ++ List.replicate (k - i) b).set i a = List.replicate (i + 1) a ++ List.replicate (k - (i + 1)) b := by
  rw [List.set_append_right _ _ (by simp), List.length_replicate, Nat.sub_self, show k - i = (k - (i + 1)) + 1 by omega, List.replicate_succ, List.set_cons_zero, List.replicate_succ', List.append_assoc]; rfl
theorem rep_get {α : Type} {a b : α} (d : α) {i j k : Nat} (h : j < k) (hi : i ≤ k) : (List.replicate i a ++ List.replicate (k - i) b).getD j d = if j < i then a else b := by
  rw [List.getD_eq_getElem?_getD]
  split
  · rename_i h1; rw [List.getElem?_append_left (by simp; omega), List.getElem?_replicate, if_pos h1]; rfl
  · rename_i h1; rw [List.getElem?_append_right (by simp; omega), List.getElem?_replicate, if_pos (by simp; omega)]; rfl
theorem rl_get {q : Int} {r k j : Nat} (hj : j < k) (hr : r ≤ k) : (rl q r k).getD j 0 = if j < r then q + 1 else q := rep_get 0 hj hr
theorem kOf_eq {m : Int} (h : 1 ≤ m) : ((kOf m : Nat) : Int) = (m - 1) / 6 + 1 ∧ 1 ≤ kOf m ∧ (kOf m : Int) ≤ m := by
  unfold kOf
  have : 0 ≤ (m - 1) / 6 := Int.ediv_nonneg (by omega) (by decide)
  omega
theorem mst_le (n : Int) : mst n ≤ 1048576 ∧ mst n ≤ n := by unfold mst; split <;> omega
theorem rem_bd {m : Int} (h : 1 ≤ m) : 0 ≤ m % (kOf m : Int) ∧ m % (kOf m : Int) < kOf m := by
  have := kOf_eq h
  exact ⟨Int.emod_nonneg _ (by omega), Int.emod_lt_of_pos _ (by omega)⟩
theorem quo_bd {m : Int} (h : 1 ≤ m) : 0 ≤ m / (kOf m : Int) ∧ m / (kOf m : Int) ≤ m := by
  have := kOf_eq h
  exact ⟨Int.ediv_nonneg (by omega) (by omega), Int.ediv_le_self _ (by omega)⟩
def sGroups : PSpec := ⟨[.d (.int .i64)], [⟨false, [.o 3 (.int .i64)]⟩], fun _ => True, fun x => ((groups x.1, ()), ())⟩
def sGroupsR : PSpec := sGroups
theorem fGroups : FnOk Try.prog 71 := ⟨_, Try.func71, by decide, rfl⟩
theorem pGroups : PSound Try.prog 71 sGroups := by
  refine psound (T := tab) (S := (spOf [])) (keep := k71) (by kernel_rfl) tabOk spNil (by kernel_rfl) Try.func71 (by kernel_rfl) (by decide) fun xs hg hp => ?_
  obtain ⟨n, ⟨⟩⟩ := xs
  obtain ⟨hn, -⟩ := hg
  change Int at n
  have hn := bd64 hn
  clear hp
  have hm := mst_le n
  show vfun tab _ k71 Try.f71 [.i .i64 n] [] _
  refine Ev.out ?_
  repeat' (first | ((with_reducible refine Ev.mk ?_); conv => whnf) | (with_reducible refine And.intro ?_ ?_) | (intro h))
  all_goals (try simp only [decide_eq_true_eq, decide_eq_false_iff_not, beq_iff_eq, bne_iff_ne, beq_eq_false_iff_ne, bne_eq_false_iff_eq, Int.toNat_natCast, ge_iff_le, gt_iff_lt, Bool.not_eq_true', Bool.not_eq_false', Int.not_lt, Int.not_le, ne_eq] at *)
  all_goals (try dsimp only [Ty.den, Ty.dflt, IsT] at *)
  all_goals (try simp only [eq4, ne4, eq3, ne3, eq2, ne2, Prod.eta, List.length_cons, List.length_nil, List.length_append, Nat.zero_add] at *)
  all_goals (try simp (disch := omega) only [wrap64] at *)
  all_goals try first | exact leafDraw (by kernel_rfl) | exact Leaf.mk trivial | (refine Leaf.mk ?_; omega) | (refine Leaf.mk ?_; unfold maxLen; omega)
  · exact Leaf.mk (ret1 (if_pos h : groups n = []).symm)
  all_goals
    change 1 ≤ mst n at h
    have hk := kOf_eq h
    have hq := quo_bd h
    have hr := rem_bd h
    have hG : groups n = rl (mst n / kOf (mst n)) (mst n % kOf (mst n)).toNat (kOf (mst n)) := if_neg (by omega)
    have e1 : IntKind.i64.wrap (IntKind.i64.wrap (((if 1048576 < n then 1048576 else n) - 1).tdiv 6) + 1) = (kOf (mst n) : Int) := by
      change IntKind.i64.wrap (IntKind.i64.wrap ((mst n - 1).tdiv 6) + 1) = _
      rw [Int.tdiv_eq_ediv_of_nonneg (by omega), wrap64 (n := (mst n - 1) / 6) (by omega), wrap64 (by omega), hk.1]
    rw [e1]
  all_goals try (refine Leaf.mk ?_; first | omega | (unfold maxLen; omega))
  rw [show (if 1048576 < n then 1048576 else n) = mst n from rfl]
  generalize mst n = m at *
  generalize kOf m = k at *
  try simp only [Int.toNat_natCast, List.length_replicate]
  refine LoopVC.on (fun i : Nat => [(20, .i .i64 i)]) (fun i => [(0, .arr 3 (.int .i64) (List.replicate i (m / k) ++ List.replicate (k - i) 0))]) (fun i => i ≤ k) (fun i => k - i) 0 (by simp only [List.replicate_zero, List.nil_append]; rfl) (by omega) ?_
  intro i hi
  repeat' (first | ((with_reducible refine Ev.mk ?_); conv => whnf) | (with_reducible refine And.intro ?_ ?_) | (intro h))
  all_goals (try simp only [decide_eq_true_eq, decide_eq_false_iff_not, beq_iff_eq, bne_iff_ne, beq_eq_false_iff_ne, bne_eq_false_iff_eq, Int.toNat_natCast, ge_iff_le, gt_iff_lt, Bool.not_eq_true', Bool.not_eq_false', Int.not_lt, Int.not_le, ne_eq] at *)
  all_goals (try dsimp only [Ty.den, Ty.dflt, IsT] at *)
  all_goals (try simp only [eq4, ne4, eq3, ne3, eq2, ne2, Prod.eta, List.length_cons, List.length_nil, List.length_append, Nat.zero_add] at *)
  all_goals (try simp (disch := omega) only [wrap64] at *)
  all_goals try first | exact leafDraw (by kernel_rfl) | exact Leaf.mk trivial | (refine Leaf.mk ?_; omega) | (refine Leaf.mk ?_; unfold maxLen; omega)
  all_goals try rw [Int.tdiv_eq_ediv_of_nonneg (by omega)]
  all_goals try rw [wrap64 (n := m / k) (by omega)]
  all_goals try rw [Int.tmod_eq_emod_of_nonneg (by omega)]
  all_goals obtain ⟨r, hr'⟩ := Int.eq_ofNat_of_zero_le hr.1
  all_goals try rw [hr']
  all_goals try first
    | (refine Leaf.mk ?_; omega)
    | exact Leaf.mk (by simp only [List.length_replicate]; omega)
    | exact Leaf.mk ((inK_iff .i64 _).2 ⟨show (-9223372036854775808 : Int) ≤ _ by omega, show _ ≤ (9223372036854775807 : Int) by omega⟩)
  · refine Leaf.mk ⟨i + 1, ?_, by omega, by omega⟩
    rw [rep_set (by omega)]; rfl
  obtain rfl : i = k := by omega
  simp only [Int.sub_zero, Int.toNat_zero, Int.toNat_natCast, Nat.sub_self, List.replicate_zero, List.append_nil]
  refine LoopVC.on (fun j : Nat => [(40, .i .i64 j)]) (fun j => [(0, .arr 3 (.int .i64) (rl (m / i) j i))]) (fun j => j ≤ r) (fun j => r - j) 0 (by simp only [rl, List.replicate_zero, List.nil_append, Nat.sub_zero]; rfl) (by omega) ?_
  intro j hj
  repeat' (first | ((with_reducible refine Ev.mk ?_); conv => whnf) | (with_reducible refine And.intro ?_ ?_) | (intro h))
  all_goals (try simp only [decide_eq_true_eq, decide_eq_false_iff_not, beq_iff_eq, bne_iff_ne, beq_eq_false_iff_ne, bne_eq_false_iff_eq, Int.toNat_natCast, ge_iff_le, gt_iff_lt, Bool.not_eq_true', Bool.not_eq_false', Int.not_lt, Int.not_le, ne_eq] at *)
  all_goals (try dsimp only [Ty.den, Ty.dflt, IsT] at *)
  all_goals (try simp only [eq4, ne4, eq3, ne3, eq2, ne2, Prod.eta, List.length_cons, List.length_nil, List.length_append, Nat.zero_add] at *)
  all_goals (try simp (disch := omega) only [wrap64] at *)
  all_goals try first | exact leafDraw (by kernel_rfl) | exact Leaf.mk trivial | (refine Leaf.mk ?_; omega) | (refine Leaf.mk ?_; unfold maxLen; omega)
  all_goals try exact Leaf.mk (by rw [rl_len (by omega)]; omega)
  · refine Leaf.mk ⟨j + 1, ?_, by omega, by omega⟩
    rw [rl_get (by omega) (by omega), if_neg (by omega), wrap64 (by omega)]
    rw [rl, rep_set (by omega)]; rfl
  · refine Leaf.mk (ret1 (show _ = groups n from ?_))
    obtain rfl : j = r := by omega
    rw [hG, hr', Int.toNat_natCast]
theorem fGroupsR : FnOk Try.prog 72 := ⟨_, Try.func72, by decide, rfl⟩
theorem pGroupsR : PSound Try.prog 72 sGroupsR := by
  refine psound (T := tab) (S := (spOf [])) (keep := k72) (by kernel_rfl) tabOk spNil (by kernel_rfl) Try.func72 (by kernel_rfl) (by decide) fun xs hg hp => ?_
  obtain ⟨n, ⟨⟩⟩ := xs
  obtain ⟨hn, -⟩ := hg
  change Int at n
  have hn := bd64 hn
  clear hp
  have hm := mst_le n
  show vfun tab _ k72 Try.f72 [.i .i64 n] [] _
  refine Ev.out ?_
  repeat' (first | ((with_reducible refine Ev.mk ?_); conv => whnf) | (with_reducible refine And.intro ?_ ?_) | (intro h))
  all_goals (try simp only [decide_eq_true_eq, decide_eq_false_iff_not, beq_iff_eq, bne_iff_ne, beq_eq_false_iff_ne, bne_eq_false_iff_eq, Int.toNat_natCast, ge_iff_le, gt_iff_lt, Bool.not_eq_true', Bool.not_eq_false', Int.not_lt, Int.not_le, ne_eq] at *)
  all_goals (try dsimp only [Ty.den, Ty.dflt, IsT] at *)
  all_goals (try simp only [eq4, ne4, eq3, ne3, eq2, ne2, Prod.eta, List.length_cons, List.length_nil, List.length_append, Nat.zero_add] at *)
  all_goals (try simp (disch := omega) only [wrap64] at *)
  all_goals try first | exact leafDraw (by kernel_rfl) | exact Leaf.mk trivial | (refine Leaf.mk ?_; omega) | (refine Leaf.mk ?_; unfold maxLen; omega)
  · exact Leaf.mk (ret1 (if_pos h : groups n = []).symm)
  change 1 ≤ mst n at h
  have hk := kOf_eq h
  have hq := quo_bd h
  have hr := rem_bd h
  have hG : groups n = rl (mst n / kOf (mst n)) (mst n % kOf (mst n)).toNat (kOf (mst n)) := if_neg (by omega)
  have e1 : IntKind.i64.wrap (((if 1048576 < n then 1048576 else n) + 6 - 1).tdiv 6) = (kOf (mst n) : Int) := by
    change IntKind.i64.wrap ((mst n + 6 - 1).tdiv 6) = _
    rw [Int.tdiv_eq_ediv_of_nonneg (by omega), wrap64 (by omega), hk.1]
    omega
  rw [e1]
  rw [show (if 1048576 < n then 1048576 else n) = mst n from rfl]
  generalize mst n = m at *
  generalize kOf m = k at *
  refine LoopVC.weak [(.slot 4, .nil 3 (.int .i64))] (fun i : Nat => [(5, .i .i64 i)]) (fun i => [(0, .arr 3 (.int .i64) ((rl (m / k) (m % k).toNat k).take i))]) (fun i => i ≤ k) (fun i => k - i) 0 (Ev.mk ?_)
  (conv => whnf)
  refine ⟨Leaf.mk rfl, Leaf.mk ?_, ?_⟩
  · omega
  intro i hi
  have hrl := rl_len (q := m / k) (r := (m % k).toNat) (k := k) (by omega)
  have htl : ((rl (m / k) (m % k).toNat k).take i).length ≤ k := by rw [List.length_take]; omega
  repeat' (first | ((with_reducible refine Ev.mk ?_); conv => whnf) | (with_reducible refine And.intro ?_ ?_) | (intro h))
  all_goals (try simp only [decide_eq_true_eq, decide_eq_false_iff_not, beq_iff_eq, bne_iff_ne, beq_eq_false_iff_ne, bne_eq_false_iff_eq, Int.toNat_natCast, ge_iff_le, gt_iff_lt, Bool.not_eq_true', Bool.not_eq_false', Int.not_lt, Int.not_le, ne_eq] at *)
  all_goals (try dsimp only [Ty.den, Ty.dflt, IsT] at *)
  all_goals (try simp only [eq4, ne4, eq3, ne3, eq2, ne2, Prod.eta, List.length_cons, List.length_nil, List.length_append, Nat.zero_add] at *)
  all_goals (try simp (disch := omega) only [wrap64] at *)
  all_goals try first | exact leafDraw (by kernel_rfl) | exact Leaf.mk trivial | (refine Leaf.mk ?_; omega) | (refine Leaf.mk ?_; unfold maxLen; omega)
  all_goals try rw [Int.tmod_eq_emod_of_nonneg (by omega)] at *
  all_goals try first
    | exact Leaf.mk ((inK_iff .i64 _).2 ⟨show (-9223372036854775808 : Int) ≤ _ by omega, show _ ≤ (9223372036854775807 : Int) by omega⟩)
    | (refine Leaf.mk ?_; first | omega | (unfold maxLen; omega))
  · refine Leaf.mk ⟨i + 1, ?_, by omega, by omega⟩
    rw [Int.tdiv_eq_ediv_of_nonneg (by omega), wrap64 (n := m / k) (by omega), wrap64 (by omega), take_at 0 (by omega), rl_get (by omega) (by omega), if_pos (by omega)]; rfl
  · refine Leaf.mk ⟨i + 1, ?_, by omega, by omega⟩
    rw [Int.tdiv_eq_ediv_of_nonneg (by omega), wrap64 (n := m / k) (by omega), take_at 0 (by omega), rl_get (by omega) (by omega), if_neg (by omega)]; rfl
  · refine Leaf.mk (ret1 (show _ = groups n from ?_))
    rw [hG, List.take_of_length_le (by omega)]
end Go.Proofs.Ytlfehkoklgmjjaa
