import Derived.Test.YtlfehkoklgmjjaaG5


set_option linter.unusedVariables false
set_option linter.unusedSimpArgs false
set_option maxRecDepth 8000
set_option maxHeartbeats 4000000
namespace Go.Proofs.Ytlfehkoklgmjjaa
open Go.Eng
def sepF (l : List Stk) : List UInt8 := (l.getD 0 stk0).1
def sepsF (l : List (List Stk)) : List (List UInt8) := (l.drop 1).map sepF
def sSeps : PSpec := ⟨[.d (.slice SsT)], [⟨false, [.d (.slice .str)]⟩], fun x => List.length x.1 ≤ 1000000, fun x => ((sepsF x.1, ()), ())⟩
def sSepsR : PSpec := sSeps
theorem seps_at {xs : List (List Stk)} {i : Nat} (h1 : 1 ≤ i) (h : i < xs.length) : ((xs.drop 1).take ((i + 1) - 1)).map sepF = ((xs.drop 1).take (i - 1)).map sepF ++ [sepF (xs.getD i [])] := by
  obtain ⟨k, rfl⟩ : ∃ k, i = k + 1 := ⟨i - 1, by omega⟩
  rw [show k + 1 + 1 - 1 = k + 1 by omega, show k + 1 - 1 = k by omega, take_at [] (by rw [List.length_drop]; omega), List.map_append]
  congr 2
  simp [List.getD, Nat.add_comm]
theorem sep_no {l : List Stk} (h : (l.length : Int) ≤ 0) : sepF l = [] := by
  rw [List.eq_nil_of_length_eq_zero (l := l) (by omega)]; rfl
theorem fSeps : FnOk Try.prog 64 := ⟨_, Try.func64, by decide, rfl⟩
theorem pSeps : PSound Try.prog 64 sSeps := by
  refine psound (T := tab) (S := (spOf [])) (keep := k64) (by kernel_rfl) tabOk spNil (by kernel_rfl) Try.func64 (by kernel_rfl) (by decide) fun xs hg hp => ?_
  obtain ⟨xs, ⟨⟩⟩ := xs
  change List (List Stk) at xs
  change xs.length ≤ 1000000 at hp
  clear hg
  show vfun tab _ k64 Try.f64 [.sl SsT xs] [] _
  refine Ev.out ?_
  repeat' (first | ((with_reducible refine Ev.mk ?_); conv => whnf) | (with_reducible refine And.intro ?_ ?_) | (intro h))
  refine LoopVC.weak [(.slot 3, .nil 9 .str)] (fun i : Nat => [(4, .i .i64 i)]) (fun i => [(0, .arr 9 .str (((xs.drop 1).take (i - 1)).map sepF))]) (fun i => 1 ≤ i) (fun i => xs.length - i) 1 (Ev.mk ?_)
  (conv => whnf)
  refine ⟨Leaf.mk rfl, Leaf.mk ?_, ?_⟩
  · omega
  intro i hi
  have hml : (((xs.drop 1).take (i - 1)).map sepF).length ≤ i := by rw [List.length_map, List.length_take]; omega
  repeat' (first | ((with_reducible refine Ev.mk ?_); conv => whnf) | (with_reducible refine And.intro ?_ ?_) | (intro h))
  all_goals (try simp only [decide_eq_true_eq, decide_eq_false_iff_not, beq_iff_eq, bne_iff_ne, beq_eq_false_iff_ne, bne_eq_false_iff_eq, Int.toNat_natCast, ge_iff_le, gt_iff_lt, Bool.not_eq_true', Bool.not_eq_false', Int.not_lt, Int.not_le, ne_eq] at *)
  all_goals (try dsimp only [Ty.den, Ty.dflt, StT, SsT] at *)
  all_goals (try simp only [eq4, ne4, eq3, ne3, eq2, ne2, Prod.eta, List.length_cons, List.length_nil, List.length_append, Nat.zero_add] at *)
  all_goals (try simp (disch := omega) only [wrap64] at *)
  all_goals try first | exact leafDraw (by kernel_rfl) | exact Leaf.mk trivial | (refine Leaf.mk ?_; omega) | (refine Leaf.mk ?_; unfold maxLen; omega)
  all_goals first
    | (refine Leaf.mk (ret1 (show _ = sepsF xs from ?_))
       rw [List.take_of_length_le (by rw [List.length_drop]; omega)]; rfl)
    | (refine Leaf.mk ⟨i + 1, ?_, by omega, by omega⟩
       rw [seps_at hi (by omega)]
       first
       | (rw [sep_no (by omega)]; rfl; done)
       | rfl)
theorem fSepsR : FnOk Try.prog 65 := ⟨_, Try.func65, by decide, rfl⟩
theorem pSepsR : PSound Try.prog 65 sSepsR := by
  refine psound (T := tab) (S := (spOf [])) (keep := k65) (by kernel_rfl) tabOk spNil (by kernel_rfl) Try.func65 (by kernel_rfl) (by decide) fun xs hg hp => ?_
  obtain ⟨xs, ⟨⟩⟩ := xs
  change List (List Stk) at xs
  change xs.length ≤ 1000000 at hp
  clear hg
  show vfun tab _ k65 Try.f65 [.sl SsT xs] [] _
  refine Ev.out ?_
  repeat' (first | ((with_reducible refine Ev.mk ?_); conv => whnf) | (with_reducible refine And.intro ?_ ?_) | (intro h))
  refine LoopVC.weak [(.slot 3, .nil 9 .str)] (fun i : Nat => [(4, .i .i64 i)]) (fun i => [(0, .arr 9 .str (((xs.drop 1).take (i - 1)).map sepF))]) (fun i => 1 ≤ i) (fun i => xs.length - i) 1 (Ev.mk ?_)
  (conv => whnf)
  refine ⟨Leaf.mk rfl, Leaf.mk ?_, ?_⟩
  · omega
  intro i hi
  have hml : (((xs.drop 1).take (i - 1)).map sepF).length ≤ i := by rw [List.length_map, List.length_take]; omega
  repeat' (first | ((with_reducible refine Ev.mk ?_); conv => whnf) | (with_reducible refine And.intro ?_ ?_) | (intro h))
  all_goals (try simp only [decide_eq_true_eq, decide_eq_false_iff_not, beq_iff_eq, bne_iff_ne, beq_eq_false_iff_ne, bne_eq_false_iff_eq, Int.toNat_natCast, ge_iff_le, gt_iff_lt, Bool.not_eq_true', Bool.not_eq_false', Int.not_lt, Int.not_le, ne_eq] at *)
  all_goals (try dsimp only [Ty.den, Ty.dflt, StT, SsT] at *)
  all_goals (try simp only [eq4, ne4, eq3, ne3, eq2, ne2, Prod.eta, List.length_cons, List.length_nil, List.length_append, Nat.zero_add] at *)
  all_goals (try simp (disch := omega) only [wrap64] at *)
  all_goals try first | exact leafDraw (by kernel_rfl) | exact Leaf.mk trivial | (refine Leaf.mk ?_; omega) | (refine Leaf.mk ?_; unfold maxLen; omega)
  all_goals first
    | (refine Leaf.mk (ret1 (show _ = sepsF xs from ?_))
       rw [List.take_of_length_le (by rw [List.length_drop]; omega)]; rfl)
    | (refine Leaf.mk ⟨i + 1, ?_, by omega, by omega⟩
       rw [seps_at hi (by omega)]
       first
       | (rw [sep_no (by omega)]; rfl; done)
       | rfl)
set_option synthInstance.maxHeartbeats 400000
instance decVerI : DecidableEq Ver := inferInstanceAs (DecidableEq (Int × Int × Bool × List UInt8))
instance decStk : DecidableEq Stk := inferInstanceAs (DecidableEq (List UInt8 × List Ver))
def sameL (a b : List Stk) : Bool := decide (a = b)
def sSameAll : PSpec := ⟨[.d SsT, .d SsT], [⟨false, [.d .bool]⟩], fun _ => True, fun x => ((sameL x.1 x.2.1, ()), ())⟩
theorem fSameAll : FnOk Try.prog 66 := ⟨_, Try.func66, by decide, rfl⟩
theorem pSameAll : PSound Try.prog 66 sSameAll := by
  refine psound (T := tab) (S := (spOf [(51, sSSameR.spec (lsOf []))])) (keep := k66) (by kernel_rfl) tabOk (spCons (pOk pSSameR fSSameR (by decide) lsNil) spNil) (by kernel_rfl) Try.func66 (by kernel_rfl) (by decide) fun xs hg hp => ?_
  obtain ⟨xs, ys, ⟨⟩⟩ := xs
  obtain ⟨⟨hl, -⟩, ⟨hl2, -⟩, -⟩ := hg
  have hl := len63 hl
  have hl2 := len63 hl2
  change List Stk at xs ys
  change xs.length ≤ _ at hl
  change ys.length ≤ _ at hl2
  clear hp
  show vfun tab _ k66 Try.f66 [.sl StT xs, .sl StT ys] [] _
  refine Ev.out ?_
  repeat' (first | ((with_reducible refine Ev.mk ?_); conv => whnf) | (with_reducible refine And.intro ?_ ?_) | (intro h))
  all_goals (try simp only [decide_eq_true_eq, decide_eq_false_iff_not, beq_iff_eq, bne_iff_ne, beq_eq_false_iff_ne, bne_eq_false_iff_eq, Int.toNat_natCast, ge_iff_le, gt_iff_lt, Bool.not_eq_true', Bool.not_eq_false', Int.not_lt, Int.not_le, ne_eq] at *)
  all_goals (try dsimp only [Ty.den, Ty.dflt, StT] at *)
  all_goals (try simp only [eq4, ne4, eq3, ne3, eq2, ne2, Prod.eta, List.length_cons, List.length_nil, List.length_append, Nat.zero_add] at *)
  all_goals (try simp (disch := omega) only [wrap64] at *)
  · refine Leaf.mk (ret1 (show false = sameL xs ys from ?_))
    rw [sameL, eq_comm, decide_eq_false_iff_not]; intro hc; subst hc; omega
  refine LoopVC.on (fun i : Nat => [(5, .i .i64 i)]) (fun _ => []) (fun i => i ≤ xs.length ∧ xs.take i = ys.take i) (fun i => xs.length - i) 0 rfl ⟨by omega, by simp⟩ ?_
  intro i ⟨hi, he⟩
  repeat' (first | ((with_reducible refine Ev.mk ?_); conv => whnf) | (with_reducible refine And.intro ?_ ?_) | (intro h))
  all_goals (try simp only [decide_eq_true_eq, decide_eq_false_iff_not, beq_iff_eq, bne_iff_ne, beq_eq_false_iff_ne, bne_eq_false_iff_eq, Int.toNat_natCast, ge_iff_le, gt_iff_lt, Bool.not_eq_true', Bool.not_eq_false', Int.not_lt, Int.not_le, ne_eq] at *)
  all_goals (try dsimp only [Ty.den, Ty.dflt, StT, sSSameR, sSSame] at *)
  all_goals (try simp only [eq4, ne4, eq3, ne3, eq2, ne2, Prod.eta, List.length_cons, List.length_nil, List.length_append, Nat.zero_add] at *)
  all_goals (try simp (disch := omega) only [wrap64] at *)
  all_goals try first | exact leafDraw (by kernel_rfl) | exact Leaf.mk trivial | (refine Leaf.mk ?_; omega) | (refine Leaf.mk ?_; unfold maxLen; omega)
  all_goals first
    | exact Leaf.mk (ret1 (show false = sameL xs ys by rw [sameL, eq_comm, decide_eq_false_iff_not]; exact same_not stk0 (of_decide_eq_false (show decide (_ = _) = false from h))))
    | exact Leaf.mk ⟨i + 1, rfl, ⟨by omega, same_step stk0 (by omega) he (by omega) (of_decide_eq_true (show decide (_ = _) = true from h))⟩, by omega⟩
    | exact Leaf.mk (ret1 (show true = sameL xs ys by rw [sameL, eq_comm, decide_eq_true_eq]; exact same_end (by omega) he (by omega)))
end Go.Proofs.Ytlfehkoklgmjjaa
