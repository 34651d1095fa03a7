import Derived.Test.YtiklpaemkeadjaaA1

set_option linter.unusedVariables false
set_option linter.unusedSimpArgs false
namespace Go.Proofs.Ytiklpaemkeadjaa
open Go.Eng
abbrev PairT : Ty := .pair .str .str
abbrev Pr := List UInt8 × List UInt8
theorem bestL_ts (at' : Int) (xs : List Ver) : ∀ (n j : Nat), xs.length - j = n → 0 ≤ (bestL at' (xs.drop j) j).1 → (xs.getD (bestL at' (xs.drop j) j).1.toNat (0, 0, false, [])).2.1 = (bestL at' (xs.drop j) j).2
  | 0, j, hn, h => by rw [drop_end (by omega)] at h; simp [bestL] at h
  | n + 1, j, hn, h => by
    rw [drop_at (0, 0, false, []) (by omega : j < xs.length)] at h ⊢
    simp only [bestL] at h ⊢
    have ih := bestL_ts at' xs n (j + 1) (by omega)
    split
    · simp
    · rename_i h1; rw [if_neg h1] at h; exact ih h
theorem bestL_step {at' : Int} {xs : List Ver} {k : Nat} (h : k < xs.length) : (bestL at' (xs.drop k) k).1 = if 1 ≤ (xs.getD k (0, 0, false, [])).2.1 ∧ (xs.getD k (0, 0, false, [])).2.1 ≤ at' ∧ ((bestL at' (xs.drop (k + 1)) (k + 1)).1 < 0 ∨ (bestL at' (xs.drop (k + 1)) (k + 1)).2 < (xs.getD k (0, 0, false, [])).2.1) then (k : Int) else (bestL at' (xs.drop (k + 1)) (k + 1)).1 := by
  rw [drop_at (0, 0, false, []) h]
  simp only [bestL]
  split <;> simp_all
def sWhichR : PSpec := ⟨[.d StT, .d (.int .i64), .d (.int .i64)], [⟨false, [.d (.int .i64)]⟩], fun _ => True, fun x => ((which x.1 x.2.1 x.2.2.1, ()), ())⟩
theorem fWhichR : FnOk Try.prog 20 := ⟨_, Try.func20, by decide, rfl⟩
theorem pWhichR : PSound Try.prog 20 sWhichR := by
  refine psound (T := tab) (S := (spOf [])) (keep := k20) (by kernel_rfl) tabOk spNil (by kernel_rfl) Try.func20 (by kernel_rfl) (by decide) fun xs hg hp => ?_
  obtain ⟨⟨key, xs⟩, me, at', ⟨⟩⟩ := xs
  obtain ⟨⟨hk, hl, hx⟩, hg⟩ := hg
  change List UInt8 at key
  change List Ver at xs
  have hl := len63 hl
  clear hp
  change Int at me
  change Int at at'
  show vfun tab _ k20 Try.f20 [.agg [.s key, .sl VerT xs], .i .i64 me, .i .i64 at'] [] _
  refine Ev.out ?_
  repeat' (first | ((with_reducible refine Ev.mk ?_); conv => whnf) | (with_reducible refine And.intro ?_ ?_) | (intro h))
  all_goals (try simp only [decide_eq_true_eq, decide_eq_false_iff_not, beq_iff_eq, bne_iff_ne, beq_eq_false_iff_ne, bne_eq_false_iff_eq, Int.toNat_natCast, ge_iff_le, gt_iff_lt, Bool.not_eq_true', Bool.not_eq_false', Int.not_lt, Int.not_le, ne_eq] at *)
  all_goals (try dsimp only [Ty.den, Ty.dflt, VerT] at *)
  all_goals (try simp only [eq4, ne4, eq3, ne3, eq2, ne2, Prod.eta, List.length_cons, List.length_nil, List.length_append, Nat.zero_add] at *)
  all_goals (try simp (disch := omega) only [wrap64] at *)
  refine LoopVC.on (fun a : Nat × Int => [(7, .i .i64 a.2), (8, .i .i64 ((a.1 : Int) - 1))]) (fun _ => [])
    (fun a => a.1 ≤ xs.length ∧ a.2 = (bestL at' (xs.drop a.1) a.1).1) (fun a => a.1) (xs.length, -1) rfl ?_ ?_
  · exact ⟨by simp, by simp only [List.drop_length]; rfl⟩
  intro ⟨j, best⟩ ⟨hi, hb⟩
  simp only at hi hb
  have hp := bestL_pos at' (xs.drop j) j
  have ht := bestL_ts at' xs _ j rfl
  simp only [List.length_drop] at hp
  rw [← hb] at hp ht
  repeat' (first | ((with_reducible refine Ev.mk ?_); conv => whnf) | (with_reducible refine And.intro ?_ ?_) | (intro h))
  all_goals (try simp only [decide_eq_true_eq, decide_eq_false_iff_not, beq_iff_eq, bne_iff_ne, beq_eq_false_iff_ne, bne_eq_false_iff_eq, Int.toNat_natCast, ge_iff_le, gt_iff_lt, Bool.not_eq_true', Bool.not_eq_false', Int.not_lt, Int.not_le, ne_eq] at *)
  all_goals (try dsimp only [Ty.den, Ty.dflt, VerT] at *)
  all_goals (try simp only [eq4, ne4, eq3, ne3, eq2, ne2, Prod.eta, List.length_cons, List.length_nil, List.length_append, Nat.zero_add] at *)
  all_goals (try simp (disch := omega) only [wrap64] at *)
  all_goals try first | exact leafDraw (by kernel_rfl) | exact Leaf.mk trivial | (refine Leaf.mk ?_; omega) | (refine Leaf.mk ?_; unfold maxLen; omega)
  rotate_right
  · refine LoopVC.on (fun a : Nat × Int => [(7, .i .i64 a.2), (10, .i .i64 ((a.1 : Int) - 1))]) (fun _ => [])
      (fun a => a.1 ≤ xs.length ∧ a.2 = if 0 ≤ idxF (pend me) (xs.drop a.1) a.1 then idxF (pend me) (xs.drop a.1) a.1 else best) (fun a => a.1) (xs.length, best) rfl ?_ ?_
    · exact ⟨by simp, by simp only [List.drop_length]; rfl⟩
    intro ⟨k, b⟩ ⟨hk, hc⟩
    simp only at hk hc
    repeat' (first | ((with_reducible refine Ev.mk ?_); conv => whnf) | (with_reducible refine And.intro ?_ ?_) | (intro h))
    all_goals (try simp only [decide_eq_true_eq, decide_eq_false_iff_not, beq_iff_eq, bne_iff_ne, beq_eq_false_iff_ne, bne_eq_false_iff_eq, Int.toNat_natCast, ge_iff_le, gt_iff_lt, Bool.not_eq_true', Bool.not_eq_false', Int.not_lt, Int.not_le, ne_eq] at *)
    all_goals (try dsimp only [Ty.den, Ty.dflt, VerT] at *)
    all_goals (try simp only [eq4, ne4, eq3, ne3, eq2, ne2, Prod.eta, List.length_cons, List.length_nil, List.length_append, Nat.zero_add] at *)
    all_goals (try simp (disch := omega) only [wrap64] at *)
    all_goals try first | exact leafDraw (by kernel_rfl) | exact Leaf.mk trivial | (refine Leaf.mk ?_; omega) | (refine Leaf.mk ?_; unfold maxLen; omega)
    rotate_right
    · obtain rfl : k = 0 := by omega
      obtain rfl : j = 0 := by omega
      refine Leaf.mk (ret1 (?_ : b = which (key, xs) me at'))
      rw [hc, hb]; rfl
    all_goals
      obtain ⟨k, rfl⟩ : ∃ n, k = n + 1 := ⟨k - 1, by omega⟩
      rw [show (((k + 1 : Nat) : Int) - 1).toNat = k by omega] at *
    all_goals
      refine Leaf.mk ⟨(k, _), by rw [show (((k + 1 : Nat) : Int) - 1) = k by omega]; rfl, ⟨by omega, ?_⟩, by omega⟩
      dsimp only
      rw [drop_at (0, 0, false, []) (by omega : k < xs.length)]
      simp only [idxF, pend, decide_eq_true_eq]
      try rw [hc]
      repeat' split
      all_goals first | rfl | omega
  all_goals try (refine Leaf.mk ?_; omega)
  all_goals
    obtain ⟨k, rfl⟩ : ∃ n, j = n + 1 := ⟨j - 1, by omega⟩
    rw [show (((k + 1 : Nat) : Int) - 1).toNat = k by omega] at *
  all_goals
    refine Leaf.mk ⟨(k, _), by rw [show (((k + 1 : Nat) : Int) - 1) = k by omega]; rfl, ⟨by omega, ?_⟩, by omega⟩
    dsimp only
    rw [bestL_step (by omega)]
    split <;> first | rfl | omega
end Go.Proofs.Ytiklpaemkeadjaa
