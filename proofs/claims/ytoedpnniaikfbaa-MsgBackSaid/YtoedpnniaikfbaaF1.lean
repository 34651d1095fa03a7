import Derived.Test.YtoedpnniaikfbaaB2
import Derived.Test.YtoedpnniaikfbaaEng4



set_option linter.unusedVariables false
set_option linter.unusedSimpArgs false
set_option maxRecDepth 8000
namespace Go.Proofs.Ytoedpnniaikfbaa
open Go.Eng
theorem flat_at {α : Type} {xs : List (List α)} {i : Nat} (h : i < xs.length) : (xs.take (i + 1)).flatten = (xs.take i).flatten ++ xs.getD i [] := by
  rw [take_at [] h, List.flatten_append]; simp
theorem flat_le {α : Type} {xs : List (List α)} (i : Nat) : (xs.take i).flatten.length ≤ xs.flatten.length := by
  conv => rhs; rw [← List.take_append_drop i xs]
  rw [List.flatten_append, List.length_append]; omega
theorem flat_get {α : Type} {xs : List (List α)} {i : Nat} (h : i < xs.length) : (xs.take i).flatten.length + (xs.getD i []).length ≤ xs.flatten.length := by
  have := flat_le (xs := xs) (i + 1)
  rw [flat_at h, List.length_append] at this; exact this
theorem fGrowB : FnOk Try.prog 173 := ⟨_, Try.func173, by decide, rfl⟩
noncomputable def iGrowB : Eng.Spec := inl tab (spOf []) k173 Try.f173
theorem pGrowB : SpecOk Try.prog 173 iGrowB := inl_ok tabOk spNil (by kernel_rfl) Try.func173 (by kernel_rfl)
def sConcatB : PSpec := ⟨[.d (.slice BT)], [⟨false, [.d BT]⟩], fun x => List.length x.1 ≤ 1000 ∧ List.length (List.flatten (α := Int) x.1) ≤ 1000000, fun x => ((List.flatten (α := Int) x.1, ()), ())⟩
theorem fConcatB : FnOk Try.prog 151 := ⟨_, Try.func151, by decide, rfl⟩
theorem pConcatB : PSound Try.prog 151 sConcatB := by
  refine psound (T := tab) (S := (spOf [(173, iGrowB)])) (keep := k151) (by kernel_rfl) tabOk (spCons (.inl ⟨pGrowB, fGrowB⟩) spNil) (by kernel_rfl) Try.func151 (by kernel_rfl) (by decide) fun xs hg hp => ?_
  obtain ⟨xs, ⟨⟩⟩ := xs
  change List (List Int) at xs
  change xs.length ≤ 1000 ∧ xs.flatten.length ≤ 1000000 at hp
  obtain ⟨hp, hf⟩ := hp
  show vfun tab _ k151 Try.f151 [.sl BT xs] [] _
  refine Ev.out ?_
  repeat' (first | ((with_reducible refine Ev.mk ?_); conv => whnf) | (with_reducible refine And.intro ?_ ?_) | (intro h))
  refine LoopVC.on (fun i : Nat => [(11, .i .i64 i), (3, .i .i64 ((xs.take i).flatten.length : Nat))]) (fun _ => []) (fun i => i ≤ xs.length) (fun i => xs.length - i) 0 rfl (by omega) ?_
  intro i hi
  have hle := flat_le (xs := xs) i
  have hge := fun h => flat_get (xs := xs) (i := i) h
  repeat' (first | ((with_reducible refine Ev.mk ?_); conv => whnf) | (with_reducible refine And.intro ?_ ?_) | (intro h))
  all_goals (try simp only [decide_eq_true_eq, decide_eq_false_iff_not, beq_iff_eq, bne_iff_ne, beq_eq_false_iff_ne, bne_eq_false_iff_eq, Int.toNat_natCast, ge_iff_le, gt_iff_lt, Bool.not_eq_true', Bool.not_eq_false', Int.not_lt, Int.not_le, ne_eq] at *)
  all_goals (try dsimp only [Ty.den, Ty.dflt, BT] at *)
  all_goals (try simp only [eq4, ne4, eq3, ne3, eq2, ne2, Prod.eta, List.length_cons, List.length_nil, List.length_append, Nat.zero_add] at *)
  all_goals (try simp (disch := omega) only [wrap64] at *)
  all_goals try first | exact leafDraw (by kernel_rfl) | exact Leaf.mk trivial | (refine Leaf.mk ?_; omega) | (refine Leaf.mk ?_; unfold maxLen; omega)
  · omega
  · refine Leaf.mk ⟨i + 1, ?_, by omega, by omega⟩
    rw [flat_at (by omega), List.length_append]; simp only [Int.natCast_add]; rfl
  · omega
  · refine LoopVC.on (fun j : Nat => [(27, .i .i64 j)]) (fun j => [(0, .arr 5 (.int .u8) (xs.take j).flatten)]) (fun j => j ≤ xs.length) (fun j => xs.length - j) 0 rfl (by omega) ?_
    intro j hj
    have hle := flat_le (xs := xs) j
    have hge := fun h => flat_get (xs := xs) (i := j) h
    repeat' (first | ((with_reducible refine Ev.mk ?_); conv => whnf) | (with_reducible refine And.intro ?_ ?_) | (intro h))
    all_goals (try simp only [decide_eq_true_eq, decide_eq_false_iff_not, beq_iff_eq, bne_iff_ne, beq_eq_false_iff_ne, bne_eq_false_iff_eq, Int.toNat_natCast, ge_iff_le, gt_iff_lt, Bool.not_eq_true', Bool.not_eq_false', Int.not_lt, Int.not_le, ne_eq] at *)
    all_goals (try dsimp only [Ty.den, Ty.dflt, BT] at *)
    all_goals (try simp only [eq4, ne4, eq3, ne3, eq2, ne2, Prod.eta, List.length_cons, List.length_nil, List.length_append, Nat.zero_add] at *)
    all_goals (try simp (disch := omega) only [wrap64] at *)
    all_goals try first | exact leafDraw (by kernel_rfl) | exact Leaf.mk trivial | (refine Leaf.mk ?_; omega) | (refine Leaf.mk ?_; unfold maxLen; omega)
    · refine Leaf.mk ⟨j + 1, ?_, by omega, by omega⟩
      rw [flat_at (by omega)]; rfl
    · rw [List.take_of_length_le (by omega)]; exact Leaf.mk (ret1 rfl)
  · refine LoopVC.weak [(.slot 6, .nil 5 (.int .u8))] (fun j : Nat => [(27, .i .i64 j)]) (fun j => [(0, .arr 5 (.int .u8) (xs.take j).flatten)]) (fun j => j ≤ xs.length) (fun j => xs.length - j) 0 (Ev.mk ?_)
    (conv => whnf)
    refine ⟨Leaf.mk rfl, Leaf.mk ?_, ?_⟩
    · omega
    intro j hj
    have hle := flat_le (xs := xs) j
    have hge := fun h => flat_get (xs := xs) (i := j) h
    repeat' (first | ((with_reducible refine Ev.mk ?_); conv => whnf) | (with_reducible refine And.intro ?_ ?_) | (intro h))
    all_goals (try simp only [decide_eq_true_eq, decide_eq_false_iff_not, beq_iff_eq, bne_iff_ne, beq_eq_false_iff_ne, bne_eq_false_iff_eq, Int.toNat_natCast, ge_iff_le, gt_iff_lt, Bool.not_eq_true', Bool.not_eq_false', Int.not_lt, Int.not_le, ne_eq] at *)
    all_goals (try dsimp only [Ty.den, Ty.dflt, BT] at *)
    all_goals (try simp only [eq4, ne4, eq3, ne3, eq2, ne2, Prod.eta, List.length_cons, List.length_nil, List.length_append, Nat.zero_add] at *)
    all_goals (try simp (disch := omega) only [wrap64] at *)
    all_goals try first | exact leafDraw (by kernel_rfl) | exact Leaf.mk trivial | (refine Leaf.mk ?_; omega) | (refine Leaf.mk ?_; unfold maxLen; omega)
    · refine Leaf.mk ⟨j + 1, ?_, by omega, by omega⟩
      rw [flat_at (by omega)]; rfl
    · rw [List.take_of_length_le (by omega)]; exact Leaf.mk (ret1 rfl)
end Go.Proofs.Ytoedpnniaikfbaa
