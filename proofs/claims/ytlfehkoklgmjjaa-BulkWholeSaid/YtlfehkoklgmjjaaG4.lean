import Derived.Test.YtlfehkoklgmjjaaG3


set_option linter.unusedVariables false
set_option linter.unusedSimpArgs false
set_option maxRecDepth 8000
set_option maxHeartbeats 4000000
namespace Go.Proofs.Ytlfehkoklgmjjaa
open Go.Eng
abbrev stk0 : Stk := ([], [])
def emptyS (s : Stk) : Bool := ((s.2.length : Nat) : Int) == 0
def lMay1 : LSpec := ⟨StT, .bool, [], fun v _ => emptyS v⟩
theorem fMay1 : FnOk Try.prog 171 := ⟨_, Try.func171, by decide, rfl⟩
theorem pMay1 : PSound Try.prog 171 lMay1.p := by
  refine psound (T := tab) (S := (spOf [])) (keep := k171) (by kernel_rfl) tabOk spNil (by kernel_rfl) Try.func171 (by kernel_rfl) (by decide) fun xs hg hp => ?_
  obtain ⟨⟨key, xs⟩, ⟨⟩⟩ := xs
  show vfun tab _ k171 Try.f171 [.agg [.s key, .sl VerT xs]] [] _
  refine Ev.out ?_
  repeat' (first | ((with_reducible refine Ev.mk ?_); conv => whnf) | (with_reducible refine And.intro ?_ ?_) | (intro h))
  exact Leaf.mk rfl
def sIndexFuncT : PSpec := ⟨[.d (.slice StT), .lam StT .bool], [⟨false, [.d (.int .i64)]⟩], fun _ => True, fun x => ((idxF x.2.1 x.1 0, ()), ())⟩
theorem fIndexFuncT : FnOk Try.prog 173 := ⟨_, Try.func173, by decide, rfl⟩
theorem pIndexFuncT : PSound Try.prog 173 sIndexFuncT := by
  refine psound (T := tab) (S := (spOf [])) (keep := k173) (by kernel_rfl) tabOk spNil (by kernel_rfl) Try.func173 (by kernel_rfl) (by decide) fun xs hg hp => ?_
  obtain ⟨xs, p, ⟨⟩⟩ := xs
  obtain ⟨⟨hl, -⟩, -⟩ := hg
  change List Stk at xs
  change Stk → Bool at p
  have hl := len63 hl
  clear hp
  show vfun tab _ k173 Try.f173 [.sl StT xs, .lam StT .bool p] [] _
  refine Ev.out ?_
  repeat' (first | ((with_reducible refine Ev.mk ?_); conv => whnf) | (with_reducible refine And.intro ?_ ?_) | (intro h))
  refine LoopVC.on (fun i : Nat => [(8, .i .i64 i)]) (fun _ => []) (fun i => i ≤ xs.length ∧ idxF p xs 0 = idxF p (xs.drop i) i) (fun i => xs.length - i) 0 rfl ⟨by omega, by simp⟩ ?_
  intro i ⟨hi, he⟩
  repeat' (first | ((with_reducible refine Ev.mk ?_); conv => whnf) | (with_reducible refine And.intro ?_ ?_) | (intro h))
  all_goals (try simp only [decide_eq_true_eq, decide_eq_false_iff_not, beq_iff_eq, bne_iff_ne, beq_eq_false_iff_ne, bne_eq_false_iff_eq, Int.toNat_natCast, ge_iff_le, gt_iff_lt, Bool.not_eq_true', Bool.not_eq_false', Int.not_lt, Int.not_le, ne_eq] at *)
  all_goals (try dsimp only [Ty.den, Ty.dflt, StT] at *)
  all_goals (try simp only [eq4, ne4, eq3, ne3, eq2, ne2, Prod.eta, List.length_cons, List.length_nil, List.length_append, Nat.zero_add] at *)
  all_goals (try simp (disch := omega) only [wrap64] at *)
  all_goals try first | exact leafDraw (by kernel_rfl) | exact Leaf.mk trivial | (refine Leaf.mk ?_; omega) | (refine Leaf.mk ?_; unfold maxLen; omega)
  all_goals first
    | (rw [drop_end (by omega)] at he; exact Leaf.mk (ret1 he.symm))
    | (rw [drop_at stk0 (by omega), idxF, if_pos (by assumption)] at he; exact Leaf.mk (ret1 he.symm))
    | (rw [drop_at stk0 (by omega), idxF, if_neg (by simp_all)] at he; exact Leaf.mk ⟨i + 1, rfl, ⟨by omega, he⟩, by omega⟩)
def sContainsFuncT : PSpec := ⟨[.d (.slice StT), .lam StT .bool], [⟨false, [.d .bool]⟩], fun _ => True, fun x => ((List.any x.1 x.2.1, ()), ())⟩
theorem fContainsFuncT : FnOk Try.prog 136 := ⟨_, Try.func136, by decide, rfl⟩
theorem pContainsFuncT : PSound Try.prog 136 sContainsFuncT := by
  refine psound (T := tab) (S := (spOf [(173, sIndexFuncT.spec (lsOf []))])) (keep := k136) (by kernel_rfl) tabOk (spCons (pOk pIndexFuncT fIndexFuncT (by decide) lsNil) spNil) (by kernel_rfl) Try.func136 (by kernel_rfl) (by decide) fun xs hg hp => ?_
  obtain ⟨xs, p, ⟨⟩⟩ := xs
  change List Stk at xs
  change Stk → Bool at p
  show vfun tab _ k136 Try.f136 [.sl StT xs, .lam StT .bool p] [] _
  refine Ev.out ?_
  repeat' (first | ((with_reducible refine Ev.mk ?_); conv => whnf) | (with_reducible refine And.intro ?_ ?_) | (intro h))
  · exact Leaf.mk trivial
  · exact Leaf.mk (ret1 (idxF_any xs 0))
def sCloneT : PSpec := ⟨[.d (.slice StT)], [⟨false, [.o 76 StT]⟩], fun x => x.1.length ≤ 1000000, fun x => ((x.1, ()), ())⟩
theorem fCloneT : FnOk Try.prog 134 := ⟨_, Try.func134, by decide, rfl⟩
theorem pCloneT : PSound Try.prog 134 sCloneT := by
  refine psound (T := tab) (S := (spOf [])) (keep := k134) (by kernel_rfl) tabOk spNil (by kernel_rfl) Try.func134 (by kernel_rfl) (by decide) fun xs hg hp => ?_
  obtain ⟨xs, ⟨⟩⟩ := xs
  obtain ⟨⟨hl, -⟩, -⟩ := hg
  change List Stk at xs
  clear hl
  change xs.length ≤ 1000000 at hp
  show vfun tab _ k134 Try.f134 [.sl StT xs] [] _
  refine Ev.out ?_
  repeat' (first | ((with_reducible refine Ev.mk ?_); conv => whnf) | (with_reducible refine And.intro ?_ ?_) | (intro h))
  all_goals (try simp only [decide_eq_true_eq, decide_eq_false_iff_not, beq_iff_eq, bne_iff_ne, beq_eq_false_iff_ne, bne_eq_false_iff_eq, Int.toNat_natCast, ge_iff_le, gt_iff_lt, Bool.not_eq_true', Bool.not_eq_false', Int.not_lt, Int.not_le, ne_eq] at *)
  all_goals (try dsimp only [Ty.den, Ty.dflt, StT] at *)
  all_goals (try simp only [eq4, ne4, eq3, ne3, eq2, ne2, Prod.eta, List.length_cons, List.length_nil, List.length_append, Nat.zero_add] at *)
  all_goals (try simp (disch := omega) only [wrap64] at *)
  all_goals try first | exact leafDraw (by kernel_rfl) | exact Leaf.mk trivial | (refine Leaf.mk ?_; omega) | (refine Leaf.mk ?_; unfold maxLen; omega)
  all_goals first
    | (refine Leaf.mk (ret1 (show ([] : List Stk) = xs from ?_)); exact (List.eq_nil_of_length_eq_zero (by omega)).symm)
    | exact Leaf.mk (ret1 rfl)
    | skip
def firstS : List Stk → Int
  | [] => 0
  | s :: r => if check s = 0 then firstS r else check s
def Up (l : List Stk) (n : Nat) : Prop := ∀ j, j < n → 1 ≤ j → (l.getD (j - 1) stk0).1 < (l.getD j stk0).1
instance (l : List Stk) (n : Nat) : Decidable (Up l n) := by unfold Up; infer_instance
def mayL (l : List Stk) : Int := if firstS l = 0 then (if l.any emptyS = true then 4 else if Up l l.length then 0 else 12) else firstS l
def sMayL : PSpec := ⟨[.d (.slice StT)], [⟨false, [.d (.int .i64)]⟩], fun _ => True, fun x => ((mayL x.1, ()), ())⟩
theorem firstS_at {xs : List Stk} {i : Nat} (h : i < xs.length) : firstS (xs.drop i) = if check (xs.getD i stk0) = 0 then firstS (xs.drop (i + 1)) else check (xs.getD i stk0) := by
  rw [drop_at stk0 h, firstS]
theorem up_step {l : List Stk} {i : Nat} (h : Up l i) (h1 : (l.getD (i - 1) stk0).1 < (l.getD i stk0).1) : Up l (i + 1) := fun j hj hj1 => by
  rcases Nat.lt_or_ge j i with hji | hji
  · exact h j hji hj1
  · obtain rfl : j = i := by omega
    exact h1
theorem up_not {l : List Stk} {i : Nat} (hi : 1 ≤ i) (hl : i < l.length) (h : sless (l.getD (i - 1) stk0).1 (l.getD i stk0).1 = false) : ¬ Up l l.length := fun hc => by
  have := sless_iff.2 (hc i hl hi)
  rw [h] at this; exact absurd this (by simp)
theorem fMayL : FnOk Try.prog 133 := ⟨_, Try.func133, by decide, rfl⟩
theorem pMayL : PSound Try.prog 133 sMayL := by
  refine psound (T := tab) (S := (spOf [(53, sCheck.spec (lsOf [(171, lMay1)])), (136, sContainsFuncT.spec (lsOf [(171, lMay1)]))])) (keep := k133) (by kernel_rfl) tabOk (spCons (pOk pCheck fCheck (by decide) ((lsCons ⟨pMay1, fMay1⟩ lsNil))) (spCons (pOk pContainsFuncT fContainsFuncT (by decide) ((lsCons ⟨pMay1, fMay1⟩ lsNil))) spNil)) (by kernel_rfl) Try.func133 (by kernel_rfl) (by decide) fun xs hg hp => ?_
  obtain ⟨xs, ⟨⟩⟩ := xs
  obtain ⟨⟨hl, -⟩, -⟩ := hg
  change List Stk at xs
  change xs.length ≤ _ at hl
  have hl := len63 hl
  clear hp
  show vfun tab _ k133 Try.f133 [.sl StT xs] [] _
  refine Ev.out ?_
  repeat' (first | ((with_reducible refine Ev.mk ?_); conv => whnf) | (with_reducible refine And.intro ?_ ?_) | (intro h))
  all_goals (try simp only [decide_eq_true_eq, decide_eq_false_iff_not, beq_iff_eq, bne_iff_ne, beq_eq_false_iff_ne, bne_eq_false_iff_eq, Int.toNat_natCast, ge_iff_le, gt_iff_lt, Bool.not_eq_true', Bool.not_eq_false', Int.not_lt, Int.not_le, ne_eq] at *)
  all_goals (try dsimp only [Ty.den, Ty.dflt, StT] at *)
  all_goals (try simp only [eq4, ne4, eq3, ne3, eq2, ne2, Prod.eta, List.length_cons, List.length_nil, List.length_append, Nat.zero_add] at *)
  all_goals (try simp (disch := omega) only [wrap64] at *)
  refine LoopVC.on (fun i : Nat => [(9, .i .i64 i)]) (fun _ => []) (fun i => i ≤ xs.length ∧ firstS xs = firstS (xs.drop i)) (fun i => xs.length - i) 0 rfl ⟨by omega, rfl⟩ ?_
  intro i ⟨hi, he⟩
  repeat' (first | ((with_reducible refine Ev.mk ?_); conv => whnf) | (with_reducible refine And.intro ?_ ?_) | (intro h))
  all_goals (try simp only [decide_eq_true_eq, decide_eq_false_iff_not, beq_iff_eq, bne_iff_ne, beq_eq_false_iff_ne, bne_eq_false_iff_eq, Int.toNat_natCast, ge_iff_le, gt_iff_lt, Bool.not_eq_true', Bool.not_eq_false', Int.not_lt, Int.not_le, ne_eq] at *)
  all_goals (try dsimp only [Ty.den, Ty.dflt, StT, sCheck] at *)
  all_goals (try simp only [eq4, ne4, eq3, ne3, eq2, ne2, Prod.eta, List.length_cons, List.length_nil, List.length_append, Nat.zero_add] at *)
  all_goals (try simp (disch := omega) only [wrap64] at *)
  all_goals try first | exact leafDraw (by kernel_rfl) | exact Leaf.mk trivial | (refine Leaf.mk ?_; omega) | (refine Leaf.mk ?_; unfold maxLen; omega)
  · rw [firstS_at (by omega), if_neg h] at he
    refine Leaf.mk (ret1 (show check (xs.getD i stk0) = mayL xs from ?_))
    rw [mayL, if_neg (by rw [he]; exact h), he]
  · rw [firstS_at (by omega), if_pos h] at he
    exact Leaf.mk ⟨i + 1, rfl, ⟨by omega, he⟩, by omega⟩
  all_goals
    rw [drop_end (by omega)] at he
    have h0 : firstS xs = 0 := he
  · refine Leaf.mk (ret1 (show 4 = mayL xs from ?_))
    rw [mayL, if_pos h0, if_pos]; assumption
  have hM : mayL xs = if Up xs xs.length then 0 else 12 := by
    rw [mayL, if_pos h0, if_neg]
    intro hc
    have h2 : xs.any emptyS = false := by assumption
    rw [hc] at h2; exact absurd h2 (by simp)
  refine LoopVC.on (fun i : Nat => [(6, .i .i64 i)]) (fun _ => []) (fun i => 1 ≤ i ∧ Up xs i) (fun i => xs.length - i) 1 rfl ⟨by omega, fun j hj hj1 => by omega⟩ ?_
  intro i ⟨hi, hu⟩
  repeat' (first | ((with_reducible refine Ev.mk ?_); conv => whnf) | (with_reducible refine And.intro ?_ ?_) | (intro h))
  all_goals (try simp only [decide_eq_true_eq, decide_eq_false_iff_not, beq_iff_eq, bne_iff_ne, beq_eq_false_iff_ne, bne_eq_false_iff_eq, Int.toNat_natCast, ge_iff_le, gt_iff_lt, Bool.not_eq_true', Bool.not_eq_false', Int.not_lt, Int.not_le, ne_eq] at *)
  all_goals (try dsimp only [Ty.den, Ty.dflt, StT] at *)
  all_goals (try simp only [eq4, ne4, eq3, ne3, eq2, ne2, Prod.eta, List.length_cons, List.length_nil, List.length_append, Nat.zero_add] at *)
  all_goals (try simp (disch := omega) only [wrap64] at *)
  all_goals try first | exact leafDraw (by kernel_rfl) | exact Leaf.mk trivial | (refine Leaf.mk ?_; omega) | (refine Leaf.mk ?_; unfold maxLen; omega)
  all_goals try rw [show ((i : Int) - 1).toNat = i - 1 by omega] at h
  · refine Leaf.mk (ret1 (show 12 = mayL xs from ?_))
    rw [hM, if_neg (up_not hi (by omega) h)]
  · exact Leaf.mk ⟨i + 1, rfl, ⟨by omega, up_step hu (sless_iff.1 h)⟩, by omega⟩
  · refine Leaf.mk (ret1 (show 0 = mayL xs from ?_))
    rw [hM, if_pos (show Up xs xs.length from fun j hj hj1 => hu j (by omega) hj1)]
def stepP (l : List Stk) (p : List (List Stk) × Nat) (i : Nat) : List (List Stk) × Nat := if p.2 < i ∧ 700 < sizeF ((l.take (i + 1)).drop p.2) then (p.1 ++ [(l.take i).drop p.2], i) else p
def runP (l : List Stk) (n : Nat) : List (List Stk) × Nat := (List.range n).foldl (stepP l) ([], 0)
def leavesF (l : List Stk) : List (List Stk) := (runP l l.length).1 ++ [l.drop (runP l l.length).2]
theorem runP_succ (l : List Stk) (n : Nat) : runP l (n + 1) = stepP l (runP l n) n := by
  rw [runP, List.range_succ, List.foldl_append]; rfl
theorem runP_le (l : List Stk) : ∀ n, (runP l n).2 ≤ n ∧ (runP l n).1.length ≤ n
  | 0 => by simp [runP]
  | n + 1 => by
    have := runP_le l n
    rw [runP_succ, stepP]
    split
    · simp; omega
    · omega
def leavesR (l : List Stk) : List (List Stk) × Int := if mayL l = 0 then (leavesF l, 0) else ([], mayL l)
theorem retL {u v : List (List Stk) × Int} (h : u = v) : (some ((u.1, ()), (u.2, ()), ()) : Option ((List (List Stk) × Unit) × (Int × Unit) × Unit)) = some ((v.1, ()), (v.2, ()), ()) := by rw [h]
abbrev SsT : Ty := .slice StT
def sLeaves : PSpec := ⟨[.d SsT], [⟨false, [.d (.slice SsT)]⟩, ⟨false, [.d (.int .i64)]⟩], fun x => List.length x.1 ≤ 100000, fun x => (((leavesR x.1).1, ()), ((leavesR x.1).2, ()), ())⟩
theorem fLeaves : FnOk Try.prog 62 := ⟨_, Try.func62, by decide, rfl⟩
theorem pLeaves : PSound Try.prog 62 sLeaves := by
  refine psound (T := tab) (S := (spOf [(133, sMayL.spec (lsOf [])), (74, iLeafSize), (134, sCloneT.spec (lsOf []))])) (keep := k62) (by kernel_rfl) tabOk (spCons (pOk pMayL fMayL (by decide) lsNil) (spCons (.inl ⟨pLeafSize, fLeafSize⟩) (spCons (pOk pCloneT fCloneT (by decide) lsNil) spNil))) (by kernel_rfl) Try.func62 (by kernel_rfl) (by decide) fun xs hg hp => ?_
  obtain ⟨xs, ⟨⟩⟩ := xs
  change List Stk at xs
  change xs.length ≤ 100000 at hp
  clear hg
  show vfun tab _ k62 Try.f62 [.sl StT xs] [] _
  refine Ev.out ?_
  repeat' (first | ((with_reducible refine Ev.mk ?_); conv => whnf) | (with_reducible refine And.intro ?_ ?_) | (intro h))
  all_goals (try simp only [decide_eq_true_eq, decide_eq_false_iff_not, beq_iff_eq, bne_iff_ne, beq_eq_false_iff_ne, bne_eq_false_iff_eq, Int.toNat_natCast, ge_iff_le, gt_iff_lt, Bool.not_eq_true', Bool.not_eq_false', Int.not_lt, Int.not_le, ne_eq] at *)
  all_goals (try dsimp only [Ty.den, Ty.dflt, StT, SsT, sMayL] at *)
  all_goals (try simp only [eq4, ne4, eq3, ne3, eq2, ne2, Prod.eta, List.length_cons, List.length_nil, List.length_append, Nat.zero_add] at *)
  all_goals (try simp (disch := omega) only [wrap64] at *)
  all_goals try first | exact leafDraw (by kernel_rfl) | exact Leaf.mk trivial | (refine Leaf.mk ?_; omega) | (refine Leaf.mk ?_; unfold maxLen; omega)
  · exact Leaf.mk (retL (u := ([], mayL xs)) (if_neg h).symm)
  have hL : leavesR xs = (leavesF xs, 0) := if_pos h
  refine LoopVC.weak [(.slot 5, .nil 114 SsT)] (fun i : Nat => [(6, .i .i64 (runP xs i).2), (15, .i .i64 i)]) (fun i => [(0, .arr 114 SsT (runP xs i).1)]) (fun i => i ≤ xs.length) (fun i => xs.length - i) 0 (Ev.mk ?_)
  (conv => whnf)
  refine ⟨Leaf.mk rfl, Leaf.mk ?_, ?_⟩
  · omega
  intro i hi
  have hr := runP_le xs i
  repeat' (first | ((with_reducible refine Ev.mk ?_); conv => whnf) | (with_reducible refine And.intro ?_ ?_) | (intro h))
  all_goals (try simp only [decide_eq_true_eq, decide_eq_false_iff_not, beq_iff_eq, bne_iff_ne, beq_eq_false_iff_ne, bne_eq_false_iff_eq, Int.toNat_natCast, ge_iff_le, gt_iff_lt, Bool.not_eq_true', Bool.not_eq_false', Int.not_lt, Int.not_le, ne_eq] at *)
  all_goals (try dsimp only [Ty.den, Ty.dflt, StT, SsT, sMayL] at *)
  all_goals (try simp only [eq4, ne4, eq3, ne3, eq2, ne2, Prod.eta, List.length_cons, List.length_nil, List.length_append, Nat.zero_add] at *)
  all_goals (try simp (disch := omega) only [wrap64] at *)
  all_goals try first | exact leafDraw (by kernel_rfl) | exact Leaf.mk trivial | (refine Leaf.mk ?_; omega) | (refine Leaf.mk ?_; unfold maxLen; omega)
  all_goals try rw [show ((i : Int) + 1).toNat = i + 1 by omega] at *
  · exact Leaf.mk (show List.length _ ≤ 100000 by simp only [List.length_drop, List.length_take]; omega)
  · exact Leaf.mk (show List.length _ ≤ 1000000 by simp only [List.length_drop, List.length_take]; omega)
  · refine Leaf.mk ⟨i + 1, ?_, by omega, by omega⟩
    have hs : 700 < sizeF ((xs.take (i + 1)).drop (runP xs i).2) := by
      have hz : (700 : Int) < (sizeF ((xs.take (i + 1)).drop (runP xs i).2) : Nat) := ‹_›
      omega
    rw [runP_succ, stepP, if_pos ⟨by omega, hs⟩]; rfl
  · refine Leaf.mk ⟨i + 1, ?_, by omega, by omega⟩
    have hs : ¬ 700 < sizeF ((xs.take (i + 1)).drop (runP xs i).2) := by
      have hz : ((sizeF ((xs.take (i + 1)).drop (runP xs i).2) : Nat) : Int) ≤ 700 := ‹_›
      omega
    rw [runP_succ, stepP, if_neg (fun hc => hs hc.2)]; rfl
  · refine Leaf.mk ⟨i + 1, ?_, by omega, by omega⟩
    rw [runP_succ, stepP, if_neg (fun hc => by omega)]; rfl
  · exact Leaf.mk (show List.length _ ≤ 1000000 by simp only [List.length_drop, List.length_take]; omega)
  · obtain rfl : i = xs.length := by omega
    rw [List.take_length]
    exact Leaf.mk (retL (u := (leavesF xs, 0)) hL.symm)
end Go.Proofs.Ytlfehkoklgmjjaa
