import Derived.Test.YtlfehkoklgmjjaaD4



set_option linter.unusedVariables false
set_option linter.unusedSimpArgs false
set_option maxRecDepth 8000
namespace Go.Proofs.Ytlfehkoklgmjjaa
open Go.Eng
def sOwn22 : PSpec := ⟨[.d (.slice EntT)], [⟨false, [.d (.slice EntT)]⟩], fun x => List.length x.1 * 32 ≤ 140737488355328 ∧ ∀ i, i < List.length x.1 → (List.getD (α := Ent) x.1 i (0, [])).2.length * 16 ≤ 140737488355328, fun x => ((x.1, ()), ())⟩
theorem fOwn22 : FnOk Try.prog 17 := ⟨_, Try.func17, by decide, rfl⟩
theorem pOwn22 : PSound Try.prog 17 sOwn22 := by
  refine psound (T := tab) (S := (spOf [])) (keep := k17) (by kernel_rfl) tabOk spNil (by kernel_rfl) Try.func17 (by kernel_rfl) (by decide) fun xs hg hp => ?_
  obtain ⟨xs, ⟨⟩⟩ := xs
  change List Ent at xs
  change xs.length * 32 ≤ 140737488355328 ∧ ∀ i, i < xs.length → (xs.getD i (0, [])).2.length * 16 ≤ 140737488355328 at hp
  clear hg
  show vfun tab _ k17 Try.f17 [.sl EntT xs] [] _
  refine Ev.out ?_
  repeat' (first | ((with_reducible refine Ev.mk ?_); conv => whnf) | (with_reducible refine And.intro ?_ ?_) | (intro h))
  refine LoopVC.weak [(.slot 3, .nil 47 EntT)] (fun i : Nat => [(4, .i .i64 i)]) (fun i => [(0, .arr 47 EntT (xs.take i))]) (fun i => i ≤ xs.length) (fun i => xs.length - i) 0 (Ev.mk ?_)
  (conv => whnf)
  refine ⟨Leaf.mk rfl, Leaf.mk ?_, ?_⟩
  · omega
  intro i hi
  have hf := hp.2 i
  have hp1 := hp.1
  repeat' (first | ((with_reducible refine Ev.mk ?_); conv => whnf) | (with_reducible refine And.intro ?_ ?_) | (intro h))
  all_goals (try simp only [decide_eq_true_eq, decide_eq_false_iff_not, beq_iff_eq, bne_iff_ne, beq_eq_false_iff_ne, bne_eq_false_iff_eq, Int.toNat_natCast, ge_iff_le, gt_iff_lt, Bool.not_eq_true', Bool.not_eq_false', Int.not_lt, Int.not_le, ne_eq] at *)
  all_goals (try dsimp only [Ty.den, Ty.dflt, EntT] at *)
  all_goals (try simp only [eq4, ne4, eq3, ne3, eq2, ne2, Prod.eta, List.length_cons, List.length_nil, List.length_append, Nat.zero_add] at *)
  all_goals (try simp (disch := omega) only [wrap64] at *)
  all_goals try first | exact leafDraw (by kernel_rfl) | exact Leaf.mk trivial | (refine Leaf.mk ?_; omega) | (refine Leaf.mk ?_; unfold maxLen; omega)
  all_goals first
    | (refine Leaf.mk ?_; simp only [List.length_take]; omega)
    | (refine Leaf.mk ?_; simp only [List.length_take]; unfold maxLen; omega)
    | (refine Leaf.mk ⟨i + 1, ?_, by omega, by omega⟩; rw [take_at ((0, []) : Ent) (by omega)]; rfl)
    | (rw [List.take_of_length_le (by omega)]; exact Leaf.mk (ret1 rfl))
def sBack22 : PSpec := ⟨[.d (.slice EntT)], [⟨false, [.d (.slice EntT)]⟩], fun x => List.length x.1 ≤ 2000, fun x => ((x.1, ()), ())⟩
theorem fBack22 : FnOk Try.prog 20 := ⟨_, Try.func20, by decide, rfl⟩
theorem pBack22 : PSound Try.prog 20 sBack22 := by
  refine psound (T := tab) (S := (spOf [])) (keep := k20) (by kernel_rfl) tabOk spNil (by kernel_rfl) Try.func20 (by kernel_rfl) (by decide) fun xs hg hp => ?_
  obtain ⟨xs, ⟨⟩⟩ := xs
  change List Ent at xs
  change xs.length ≤ 2000 at hp
  clear hg
  show vfun tab _ k20 Try.f20 [.sl EntT xs] [] _
  refine Ev.out ?_
  repeat' (first | ((with_reducible refine Ev.mk ?_); conv => whnf) | (with_reducible refine And.intro ?_ ?_) | (intro h))
  refine LoopVC.weak [(.slot 3, .nil 126 EntT)] (fun i : Nat => [(4, .i .i64 i)]) (fun i => [(0, .arr 126 EntT (xs.take i))]) (fun i => i ≤ xs.length) (fun i => xs.length - i) 0 (Ev.mk ?_)
  (conv => whnf)
  refine ⟨Leaf.mk rfl, Leaf.mk ?_, ?_⟩
  · omega
  intro i hi
  repeat' (first | ((with_reducible refine Ev.mk ?_); conv => whnf) | (with_reducible refine And.intro ?_ ?_) | (intro h))
  all_goals (try simp only [decide_eq_true_eq, decide_eq_false_iff_not, beq_iff_eq, bne_iff_ne, beq_eq_false_iff_ne, bne_eq_false_iff_eq, Int.toNat_natCast, ge_iff_le, gt_iff_lt, Bool.not_eq_true', Bool.not_eq_false', Int.not_lt, Int.not_le, ne_eq] at *)
  all_goals (try dsimp only [Ty.den, Ty.dflt, EntT] at *)
  all_goals (try simp only [eq4, ne4, eq3, ne3, eq2, ne2, Prod.eta, List.length_cons, List.length_nil, List.length_append, Nat.zero_add] at *)
  all_goals (try simp (disch := omega) only [wrap64] at *)
  all_goals try first | exact leafDraw (by kernel_rfl) | exact Leaf.mk trivial | (refine Leaf.mk ?_; omega) | (refine Leaf.mk ?_; unfold maxLen; omega)
  all_goals first
    | (refine Leaf.mk ?_; simp only [List.length_take]; omega)
    | (refine Leaf.mk ?_; simp only [List.length_take]; unfold maxLen; omega)
    | (refine Leaf.mk ⟨i + 1, ?_, by omega, by omega⟩; rw [take_at ((0, []) : Ent) (by omega)]; rfl)
    | (rw [List.take_of_length_le (by omega)]; exact Leaf.mk (ret1 rfl))
def sAwake22 : PSpec := ⟨[], [⟨false, [.d .bool]⟩], fun _ => True, fun _ => ((true, ()), ())⟩
theorem fAwake22 : FnOk Try.prog 16 := ⟨_, Try.func16, by decide, rfl⟩
theorem pAwake22 : PSound Try.prog 16 sAwake22 := by
  refine psound (T := tab) (S := (spOf [(28, sAdd.spec (lsOf [])), (18, sNote.spec (lsOf [])), (26, sFirst.spec (lsOf [])), (31, sMeet.spec (lsOf [])), (22, sTrim.spec (lsOf [])), (24, sCheck22.spec (lsOf []))])) (keep := k16) (by kernel_rfl) tabOk (spCons (pOk pAdd fAdd (by decide) lsNil) (spCons (pOk pNote fNote (by decide) lsNil) (spCons (pOk pFirst fFirst (by decide) lsNil) (spCons (pOk pMeet fMeet (by decide) lsNil) (spCons (pOk pTrim fTrim (by decide) lsNil) (spCons (pOk pCheck22 fCheck22 (by decide) lsNil) spNil)))))) (by kernel_rfl) Try.func16 (by kernel_rfl) (by decide) fun xs hg hp => ?_
  obtain ⟨⟩ := xs
  show vfun tab _ k16 Try.f16 [] [] _
  refine Ev.out ?_
  repeat' (first | ((with_reducible refine Ev.mk ?_); conv => whnf) | (with_reducible refine And.intro ?_ ?_) | (intro h; first | exact absurd h (by decide +kernel) | skip))
  all_goals first
    | exact Leaf.mk trivial
    | exact Leaf.mk rfl
    | exact leafDraw (by kernel_rfl)
    | exact Leaf.mk (by decide +kernel)
    | (refine Leaf.mk (?_ : List.length _ ≤ 1000); decide +kernel)
    | (refine Leaf.mk (?_ : List.length _ ≤ 1000 ∧ List.length _ ≤ 1000); decide +kernel)
end Go.Proofs.Ytlfehkoklgmjjaa
