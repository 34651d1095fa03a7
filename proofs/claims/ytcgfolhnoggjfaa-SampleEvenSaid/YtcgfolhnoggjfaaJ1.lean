import Derived.Test.YtcgfolhnoggjfaaH5



set_option linter.unusedVariables false
set_option linter.unusedSimpArgs false
set_option maxRecDepth 8000
set_option maxHeartbeats 4000000
namespace Go.Proofs.Ytcgfolhnoggjfaa
open Go.Eng
abbrev StrT : Ty := .str
abbrev StrsT : Ty := .slice .str
abbrev Str := List UInt8
/-- Keys sorted, each once. -/
def sortF (l : List Str) : List Str := l.foldl addK []
theorem sortF_len (l : List Str) : (sortF l).length ≤ l.length := by rw [sortF, sortU_fold]; exact sortU_len l
theorem posK_at {k : Str} : ∀ {l : List Str} {i : Nat}, i ≤ l.length → (∀ j, j < i → sless (l.getD j []) k = true) → posK k l = i + posK k (l.drop i)
  | l, 0, _, _ => by simp
  | [], i + 1, h, _ => by simp at h
  | x :: r, i + 1, h, hj => by
    have h0 := hj 0 (by omega)
    have ih := posK_at (l := r) (i := i) (by simpa using h) (fun j hji => hj (j + 1) (by omega))
    rw [posK, if_pos (by simpa using h0), ih]; simp; omega
def sCloneS : PSpec := ⟨[.d (.slice .str)], [⟨false, [.o 9 .str]⟩], fun x => x.1.length ≤ 1000000, fun x => ((x.1, ()), ())⟩
theorem fCloneS : FnOk Try.prog 48 := ⟨_, Try.func48, by decide, rfl⟩
theorem pCloneS : PSound Try.prog 48 sCloneS := by
  refine psound (T := tab) (S := (spOf [])) (keep := k48) (by kernel_rfl) tabOk spNil (by kernel_rfl) Try.func48 (by kernel_rfl) (by decide) fun xs hg hp => ?_
  obtain ⟨xs, ⟨⟩⟩ := xs
  obtain ⟨⟨hl, -⟩, -⟩ := hg
  change List Str at xs
  clear hl
  change xs.length ≤ 1000000 at hp
  show vfun tab _ k48 Try.f48 [.sl .str xs] [] _
  refine Ev.out ?_
  repeat' (first | ((with_reducible refine Ev.mk ?_); conv => whnf) | (with_reducible refine And.intro ?_ ?_) | (intro h))
  all_goals (try simp only [decide_eq_true_eq, decide_eq_false_iff_not, beq_iff_eq, bne_iff_ne, beq_eq_false_iff_ne, bne_eq_false_iff_eq, Int.toNat_natCast, ge_iff_le, gt_iff_lt, Bool.not_eq_true', Bool.not_eq_false', Int.not_lt, Int.not_le, ne_eq] at *)
  all_goals (try dsimp only [Ty.den, Ty.dflt, .str] at *)
  all_goals (try simp only [eq4, ne4, eq3, ne3, eq2, ne2, Prod.eta, List.length_cons, List.length_nil, List.length_append, Nat.zero_add] at *)
  all_goals (try simp (disch := omega) only [wrap64] at *)
  all_goals try first | exact leafDraw (by kernel_rfl) | exact Leaf.mk trivial | (refine Leaf.mk ?_; omega) | (refine Leaf.mk ?_; unfold maxLen; omega)
  all_goals first
    | (refine Leaf.mk (ret1 (show ([] : List Str) = xs from ?_)); exact (List.eq_nil_of_length_eq_zero (by omega)).symm)
    | exact Leaf.mk (ret1 rfl)
    | skip
def sSorted : PSpec := ⟨[.d StrsT], [⟨false, [.d StrsT]⟩], fun x => List.length x.1 ≤ 100000, fun x => ((sortF x.1, ()), ())⟩
def sSortedR : PSpec := sSorted
theorem fSorted : FnOk Try.prog 15 := ⟨_, Try.func15, by decide, rfl⟩
theorem pSorted : PSound Try.prog 15 sSorted := by
  refine psound (T := tab) (S := (spOf [(48, sCloneS.spec (lsOf [])), (49, iSort), (50, sCompact.spec)])) (keep := k15) (by kernel_rfl) tabOk (spCons (pOk pCloneS fCloneS (by decide) lsNil) (spCons (.inl ⟨pSort, fSort⟩) (spCons (.inl ⟨pCompact, fCompact⟩) spNil))) (by kernel_rfl) Try.func15 (by kernel_rfl) (by decide) fun xs hg hp => ?_
  obtain ⟨l, ⟨⟩⟩ := xs
  change List Str at l
  change l.length ≤ 100000 at hp
  clear hg
  show vfun tab _ k15 Try.f15 [.sl .str l] [] _
  refine Ev.out ?_
  repeat' (first | ((with_reducible refine Ev.mk ?_); conv => whnf) | (with_reducible refine And.intro ?_ ?_) | (intro h))
  all_goals (try simp only [decide_eq_true_eq, decide_eq_false_iff_not, beq_iff_eq, bne_iff_ne, beq_eq_false_iff_ne, bne_eq_false_iff_eq, Int.toNat_natCast, ge_iff_le, gt_iff_lt, Bool.not_eq_true', Bool.not_eq_false', Int.not_lt, Int.not_le, ne_eq] at *)
  all_goals (try dsimp only [Ty.den, Ty.dflt, StrsT, sCloneS] at *)
  all_goals (try simp only [eq4, ne4, eq3, ne3, eq2, ne2, Prod.eta, List.length_cons, List.length_nil, List.length_append, Nat.zero_add] at *)
  all_goals (try simp (disch := omega) only [wrap64] at *)
  all_goals try first | exact leafDraw (by kernel_rfl) | exact Leaf.mk trivial | (refine Leaf.mk ?_; omega) | (refine Leaf.mk ?_; unfold maxLen; omega)
  all_goals
    have h1 := sortStr_len l
  all_goals first
    | exact Leaf.mk (show l.length ≤ 1000000 by omega)
    | (refine Leaf.mk ?_; omega)
    | exact Leaf.mk (show (sortStr l).length ≤ 1000000 by omega)
    | (refine Leaf.mk (ret1 (show compL (sortStr l) = sortF l from ?_))
       rw [sortF, sortU_fold]; rfl)
theorem fSortedR : FnOk Try.prog 16 := ⟨_, Try.func16, by decide, rfl⟩
theorem pSortedR : PSound Try.prog 16 sSortedR := by
  refine psound (T := tab) (S := (spOf [])) (keep := k16) (by kernel_rfl) tabOk spNil (by kernel_rfl) Try.func16 (by kernel_rfl) (by decide) fun xs hg hp => ?_
  obtain ⟨l, ⟨⟩⟩ := xs
  change List Str at l
  change l.length ≤ 100000 at hp
  clear hg
  show vfun tab _ k16 Try.f16 [.sl .str l] [] _
  refine Ev.out ?_
  repeat' (first | ((with_reducible refine Ev.mk ?_); conv => whnf) | (with_reducible refine And.intro ?_ ?_) | (intro h))
  all_goals (try simp only [decide_eq_true_eq, decide_eq_false_iff_not, beq_iff_eq, bne_iff_ne, beq_eq_false_iff_ne, bne_eq_false_iff_eq, Int.toNat_natCast, ge_iff_le, gt_iff_lt, Bool.not_eq_true', Bool.not_eq_false', Int.not_lt, Int.not_le, ne_eq] at *)
  all_goals (try dsimp only [Ty.den, Ty.dflt, StrsT] at *)
  all_goals (try simp only [eq4, ne4, eq3, ne3, eq2, ne2, Prod.eta, List.length_cons, List.length_nil, List.length_append, Nat.zero_add] at *)
  all_goals (try simp (disch := omega) only [wrap64] at *)
  all_goals try first | exact leafDraw (by kernel_rfl) | exact Leaf.mk trivial | (refine Leaf.mk ?_; omega) | (refine Leaf.mk ?_; unfold maxLen; omega)
  refine LoopVC.weak2 [(.slot 3, .sl .str)] (fun i : Nat => [(3, .sl .str (sortF (l.take i))), (4, .i .i64 i)]) (fun _ => []) (fun i => i ≤ l.length) (fun i => l.length - i) 0 (Ev.mk ?_)
  (conv => whnf)
  refine ⟨Leaf.mk ?_, Leaf.mk ?_, ?_⟩
  · rfl
  · omega
  intro i hi
  have hsl := sortF_len (l.take i)
  have htl : (l.take i).length ≤ i := by rw [List.length_take]; omega
  have hat : ∀ h : i < l.length, sortF (l.take (i + 1)) = addK (sortF (l.take i)) (l.getD i []) := fun h => foldl_at [] h
  generalize hO : sortF (l.take i) = O at *
  repeat' (first | ((with_reducible refine Ev.mk ?_); conv => whnf) | (with_reducible refine And.intro ?_ ?_) | (intro h))
  all_goals (try simp only [decide_eq_true_eq, decide_eq_false_iff_not, beq_iff_eq, bne_iff_ne, beq_eq_false_iff_ne, bne_eq_false_iff_eq, Int.toNat_natCast, ge_iff_le, gt_iff_lt, Bool.not_eq_true', Bool.not_eq_false', Int.not_lt, Int.not_le, ne_eq] at *)
  all_goals (try dsimp only [Ty.den, Ty.dflt, StrsT] at *)
  all_goals (try simp only [eq4, ne4, eq3, ne3, eq2, ne2, Prod.eta, List.length_cons, List.length_nil, List.length_append, Nat.zero_add] at *)
  all_goals (try simp (disch := omega) only [wrap64] at *)
  all_goals try first | exact leafDraw (by kernel_rfl) | exact Leaf.mk trivial | (refine Leaf.mk ?_; omega) | (refine Leaf.mk ?_; unfold maxLen; omega)
  rotate_right
  · refine Leaf.mk (ret1 (show O = sortF l from ?_))
    rw [← hO, take_all (by omega)]
  refine LoopVC.on (fun p : Nat => [(5, .i .i64 p)]) (fun _ => []) (fun p => p ≤ O.length ∧ ∀ j, j < p → sless (O.getD j []) (l.getD i []) = true) (fun p => O.length - p) 0 rfl ⟨by omega, fun j hj => by omega⟩ ?_
  intro p ⟨hp1, hj⟩
  have hpk := posK_at hp1 hj
  repeat' (first | ((with_reducible refine Ev.mk ?_); conv => whnf) | (with_reducible refine And.intro ?_ ?_) | (intro h))
  all_goals (try simp only [decide_eq_true_eq, decide_eq_false_iff_not, beq_iff_eq, bne_iff_ne, beq_eq_false_iff_ne, bne_eq_false_iff_eq, Int.toNat_natCast, ge_iff_le, gt_iff_lt, Bool.not_eq_true', Bool.not_eq_false', Int.not_lt, Int.not_le, ne_eq] at *)
  all_goals (try dsimp only [Ty.den, Ty.dflt, StrsT] at *)
  all_goals (try simp only [eq4, ne4, eq3, ne3, eq2, ne2, Prod.eta, List.length_cons, List.length_nil, List.length_append, Nat.zero_add] at *)
  all_goals (try simp (disch := omega) only [wrap64] at *)
  all_goals try first | exact leafDraw (by kernel_rfl) | exact Leaf.mk trivial | (refine Leaf.mk ?_; omega) | (refine Leaf.mk ?_; unfold maxLen; omega)
  all_goals try simp only [Int.toNat_zero, List.drop_zero, List.nil_append, take_all (Nat.le_refl O.length)] at *
  all_goals try first
    | (refine Leaf.mk ?_; simp only [List.length_take, List.length_drop]; omega)
    | (refine Leaf.mk ?_; simp only [List.length_take, List.length_drop]; unfold maxLen; omega)
  · refine Leaf.mk ⟨p + 1, rfl, ⟨by omega, fun j hji => ?_⟩, by omega⟩
    rcases Nat.lt_or_ge j p with h1 | h1
    · exact hj j h1
    · obtain rfl : j = p := by omega
      assumption
  all_goals
    have hpi : posK (l.getD i []) O = p := by
      rw [hpk]
      first
      | (rw [drop_end (by omega)]; rfl)
      | (rw [drop_at [] (by omega), posK, if_neg (by rw [‹sless _ _ = false›]; simp)]; omega)
    have hA : addK O (l.getD i []) = if p < O.length ∧ O.getD p [] = l.getD i [] then O else O.take p ++ [l.getD i []] ++ O.drop p := by rw [addK, hpi]
  all_goals first
    | (refine Leaf.mk ⟨i + 1, .inl ?_, by omega, by omega⟩
       rw [hat (by omega), hA, if_pos ⟨by omega, h⟩]; rfl)
    | (refine Leaf.mk ⟨i + 1, .inr ⟨[(.slot 3, .frz)], ?_⟩, by omega, by omega⟩
       (conv => whnf)
       rw [hat (by omega), hA, if_neg (fun hc => by first | exact h hc.2 | omega)]; rfl)
end Go.Proofs.Ytcgfolhnoggjfaa
