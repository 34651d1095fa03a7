import Derived.Test.YtkmfjlfejdoehaaGreatQ11
import Derived.Test.YtkmfjlfejdoehaaGreatQ9
import Derived.Test.YtkmfjlfejdoehaaGreatQ10
import Derived.Test.YtkmfjlfejdoehaaGreatQ8
/- Texts, one behind the other. -/
set_option linter.unusedVariables false
set_option linter.unusedSimpArgs false
set_option maxRecDepth 8000
set_option maxHeartbeats 4000000
namespace Go.Proofs.YtkmfjlfejdoehaaGreat
open Go.Eng
theorem putR_okk {s : Stk} (h : check s = 0) : (putR11 s).1 = putS s := by unfold putR11; rw [if_pos h]
theorem one_okk {s : Stk} (h : check s = 0) : one s = putSmall ((putS s).length : Nat) ++ putS s := by rw [one, putR_okk h]
theorem rdSmall_one {s : Stk} (h : check s = 0) (r : List Int) : rdSmall (one s ++ r) 0 = ((((putS s).length : Nat) : Int), putS s ++ r, 0) := by
  have := putS_len h
  rw [one_okk h, List.append_assoc]
  exact rdSmall_put (by omega) (by omega) _
def rdL : Nat → List Int → List Stk
  | 0, _ => []
  | n + 1, b => (getS ((rdSmall b 0).2.1.take (rdSmall b 0).1.toNat)).1 :: rdL n ((rdSmall b 0).2.1.drop (rdSmall b 0).1.toNat)
theorem rdL_put : ∀ (l : List Stk), (∀ s ∈ l, check s = 0) → rdL l.length (l.flatMap one) = l
  | [], _ => rfl
  | s :: r, h => by
    have hs := h s List.mem_cons_self
    rw [List.length_cons, rdL, List.flatMap_cons, rdSmall_one hs]
    dsimp only
    rw [Int.toNat_natCast, List.take_left' rfl, List.drop_left' rfl, getS_put hs rfl, rdL_put r fun x hx => h x (List.mem_cons_of_mem _ hx)]
def readL (b : List Int) : List Stk := rdL (min (rdSmall b 0).1.toNat 1016) (rdSmall b 0).2.1
def getL (b : List Int) : List Stk × Int := if checkL (readL b) = 0 ∧ layF (readL b) = b then (readL b, 0) else ([], 4)
theorem one_pos (s : Stk) : 1 ≤ (one s).length := by
  have := (putSmall_len ((putR11 s).1.length : Nat)).1
  rw [one, List.length_append]; omega
theorem len_sum : ∀ (l : List Stk), l.length ≤ sumN l
  | [] => Nat.le_refl _
  | s :: r => by
    have := len_sum r
    have := one_pos s
    rw [sumN_cons, List.length_cons]; omega
structure LeafOk (l : List Stk) : Prop where
  all : ∀ s ∈ l, check s = 0
  len : l.length ≤ 1016
  size : sizeF l ≤ 1016
theorem leafOk {l : List Stk} (h : checkL l = 0) : LeafOk l := by
  have h1 : mayL l = 0 ∧ sizeF l ≤ 1016 := by
    unfold checkL at h
    split at h
    · rename_i h1
      split at h
      · omega
      · exact ⟨h1, by omega⟩
    · rename_i h1; exact absurd h h1
  have h2 := len_sum l
  have h3 : sumN l ≤ sizeF l := by rw [sizeF, layF, List.length_append]; exact Nat.le_add_left _ _
  exact ⟨(mayL_zero.1 h1.1).1, by omega, h1.2⟩
theorem rd_lay {l : List Stk} (h : checkL l = 0) : rdSmall (layF l) 0 = (((l.length : Nat) : Int), l.flatMap one, 0) := by
  have := (leafOk h).len
  exact rdSmall_put (by omega) (by omega) _
theorem getL_put {l : List Stk} {b : List Int} (h : checkL l = 0) (hb : layF l = b) : getL b = (l, 0) := by
  subst hb
  have ok := leafOk h
  have hr : readL (layF l) = l := by
    rw [readL, rd_lay h]
    dsimp only
    rw [Int.toNat_natCast, Nat.min_eq_left ok.len, rdL_put l ok.all]
  unfold getL
  rw [hr, if_pos ⟨h, rfl⟩]
theorem getL_not {b : List Int} (h : ∀ l, checkL l = 0 → layF l ≠ b) : getL b = ([], 4) := by
  unfold getL
  rw [if_neg (fun hc => h _ hc.1 hc.2)]
theorem isB_one (s : Stk) : isB (one s) := by
  refine isB_append (isB_small _) ?_
  unfold putR11
  split
  · exact isB_S s
  · exact fun x hx => by simp at hx
theorem isB_layF (l : List Stk) : isB (layF l) := isB_append (isB_small _) fun x hx => by
  obtain ⟨s, _, hs⟩ := List.mem_flatMap.1 hx
  exact isB_one s x hs
def putL (l : List Stk) : List Int × Int := if checkL l = 0 then (layF l, 0) else ([], checkL l)
theorem retP {u v : List Int × Int} (h : u = v) : (some ((u.1, ()), (u.2, ()), ()) : Option ((List Int × Unit) × (Int × Unit) × Unit)) = some ((v.1, ()), (v.2, ()), ()) := by rw [h]
def sLPut : PSpec := ⟨[.st SsT], [⟨false, [.d BT]⟩, ⟨false, [.d (.int .i64)]⟩], fun x => List.length x.1 ≤ 100000, fun x => (((putL x.1).1, ()), ((putL x.1).2, ()), ())⟩
theorem fLPut : FnOk Tryz.prog 31 := ⟨_, Tryz.func31, by decide, rfl⟩
theorem pLPut : PSound Tryz.prog 31 sLPut := by
  refine psound (T := tab) (S := (spOf [(24, sLCheck.spec (lsOf [])), (88, sLay14.spec (lsOf []))])) (keep := k31) (by kernel_rfl) tabOk (spCons (pOk pLCheck fLCheck (by decide) lsNil) (spCons (pOk pLay14 fLay14 (by decide) lsNil) spNil)) (by kernel_rfl) Tryz.func31 (by kernel_rfl) (by decide) fun xs hg hp => ?_
  obtain ⟨l, ⟨⟩⟩ := xs
  change List Stk at l
  change l.length ≤ 100000 at hp
  clear hg
  show vfun tab _ k31 Tryz.f31 [.agg [.sl StT l]] [] _
  refine Ev.out ?_
  repeat' (first | ((with_reducible refine Ev.mk ?_); conv => whnf) | (with_reducible refine And.intro ?_ ?_) | (intro h))
  all_goals (try simp only [decide_eq_true_eq, decide_eq_false_iff_not, beq_iff_eq, bne_iff_ne, beq_eq_false_iff_ne, bne_eq_false_iff_eq, Int.toNat_natCast, ge_iff_le, gt_iff_lt, Bool.not_eq_true', Bool.not_eq_false', Int.not_lt, Int.not_le, ne_eq] at *)
  all_goals (try dsimp only [Ty.den, Ty.dflt, StT] at *)
  all_goals (try simp only [eq4, ne4, eq3, ne3, eq2, ne2, Prod.eta, List.length_cons, List.length_nil, List.length_append, Nat.zero_add] at *)
  all_goals (try simp (disch := omega) only [wrap64] at *)
  all_goals try first | exact leafDraw (by kernel_rfl) | exact Leaf.mk trivial | (refine Leaf.mk ?_; omega) | (refine Leaf.mk ?_; unfold maxLen; omega)
  all_goals try exact Leaf.mk (show l.length ≤ 100000 by omega)
  all_goals first
    | (refine Leaf.mk (retP (u := ([], checkL l)) (v := putL l) ?_)
       rw [putL, if_neg (show ¬ checkL l = 0 from ‹_›)])
    | (refine Leaf.mk (retP (u := (layF l, 0)) (v := putL l) ?_)
       rw [putL, if_pos (show checkL l = 0 from ‹_›)])
def sLCheckR : PSpec := ⟨[.d SsT], [⟨false, [.d (.int .i64)]⟩], fun x => List.length x.1 ≤ 100000, fun x => ((checkL x.1, ()), ())⟩
theorem fLCheckR : FnOk Tryz.prog 25 := ⟨_, Tryz.func25, by decide, rfl⟩
theorem pLCheckR : PSound Tryz.prog 25 sLCheckR := by
  refine psound (T := tab) (S := (spOf [(87, sSCheckR.spec (lsOf [])), (27, sSizeR.spec (lsOf []))])) (keep := k25) (by kernel_rfl) tabOk (spCons (pOk pSCheckR fSCheckR (by decide) lsNil) (spCons (pOk pSizeR fSizeR (by decide) lsNil) spNil)) (by kernel_rfl) Tryz.func25 (by kernel_rfl) (by decide) fun xs hg hp => ?_
  obtain ⟨xs, ⟨⟩⟩ := xs
  change List Stk at xs
  change xs.length ≤ 100000 at hp
  clear hg
  show vfun tab _ k25 Tryz.f25 [.sl StT xs] [] _
  refine Ev.out ?_
  repeat' (first | ((with_reducible refine Ev.mk ?_); conv => whnf) | (with_reducible refine And.intro ?_ ?_) | (intro h))
  all_goals (try simp only [decide_eq_true_eq, decide_eq_false_iff_not, beq_iff_eq, bne_iff_ne, beq_eq_false_iff_ne, bne_eq_false_iff_eq, Int.toNat_natCast, ge_iff_le, gt_iff_lt, Bool.not_eq_true', Bool.not_eq_false', Int.not_lt, Int.not_le, ne_eq] at *)
  all_goals (try dsimp only [Ty.den, Ty.dflt, StT] at *)
  all_goals (try simp only [eq4, ne4, eq3, ne3, eq2, ne2, Prod.eta, List.length_cons, List.length_nil, List.length_append, Nat.zero_add] at *)
  all_goals (try simp (disch := omega) only [wrap64] at *)
  all_goals try first | exact leafDraw (by kernel_rfl) | exact Leaf.mk trivial | (refine Leaf.mk ?_; omega) | (refine Leaf.mk ?_; unfold maxLen; omega)
  refine LoopVC.on (fun i : Nat => [(3, .i .i64 i)]) (fun _ => []) (fun i => i ≤ xs.length ∧ firstS xs = firstS (xs.drop i)) (fun i => xs.length - i) 0 rfl ⟨by omega, rfl⟩ ?_
  intro i ⟨hi, he⟩
  repeat' (first | ((with_reducible refine Ev.mk ?_); conv => whnf) | (with_reducible refine And.intro ?_ ?_) | (intro h))
  all_goals (try simp only [decide_eq_true_eq, decide_eq_false_iff_not, beq_iff_eq, bne_iff_ne, beq_eq_false_iff_ne, bne_eq_false_iff_eq, Int.toNat_natCast, ge_iff_le, gt_iff_lt, Bool.not_eq_true', Bool.not_eq_false', Int.not_lt, Int.not_le, ne_eq] at *)
  all_goals (try dsimp only [Ty.den, Ty.dflt, StT, sCheck, sSCheckR] at *)
  all_goals (try simp only [eq4, ne4, eq3, ne3, eq2, ne2, Prod.eta, List.length_cons, List.length_nil, List.length_append, Nat.zero_add] at *)
  all_goals (try simp (disch := omega) only [wrap64] at *)
  all_goals try first | exact leafDraw (by kernel_rfl) | exact Leaf.mk trivial | (refine Leaf.mk ?_; omega) | (refine Leaf.mk ?_; unfold maxLen; omega)
  · rw [firstS_at (by omega), if_neg h] at he
    refine Leaf.mk (ret1 (show check (xs.getD i stk0) = checkL xs from ?_))
    have hm : mayL xs = check (xs.getD i stk0) := by rw [mayL, if_neg (by rw [he]; exact h), he]
    rw [checkL, if_neg (by rw [hm]; exact h), hm]
  · rw [firstS_at (by omega), if_pos h] at he
    exact Leaf.mk ⟨i + 1, rfl, ⟨by omega, he⟩, by omega⟩
  rw [drop_end (by omega)] at he
  have h0 : firstS xs = 0 := he
  refine LoopVC.on (fun i : Nat => [(5, .i .i64 i)]) (fun _ => []) (fun i => i ≤ xs.length ∧ xs.any emptyS = (xs.drop i).any emptyS) (fun i => xs.length - i) 0 rfl ⟨by omega, rfl⟩ ?_
  intro i ⟨hi, he⟩
  repeat' (first | ((with_reducible refine Ev.mk ?_); conv => whnf) | (with_reducible refine And.intro ?_ ?_) | (intro h))
  all_goals (try simp only [decide_eq_true_eq, decide_eq_false_iff_not, beq_iff_eq, bne_iff_ne, beq_eq_false_iff_ne, bne_eq_false_iff_eq, Int.toNat_natCast, ge_iff_le, gt_iff_lt, Bool.not_eq_true', Bool.not_eq_false', Int.not_lt, Int.not_le, ne_eq] at *)
  all_goals (try dsimp only [Ty.den, Ty.dflt, StT, sCheck, sSCheckR] at *)
  all_goals (try simp only [eq4, ne4, eq3, ne3, eq2, ne2, Prod.eta, List.length_cons, List.length_nil, List.length_append, Nat.zero_add] at *)
  all_goals (try simp (disch := omega) only [wrap64] at *)
  all_goals try first | exact leafDraw (by kernel_rfl) | exact Leaf.mk trivial | (refine Leaf.mk ?_; omega) | (refine Leaf.mk ?_; unfold maxLen; omega)
  · rw [any_hit stk0 (by omega) (show emptyS (xs.getD i stk0) = true from by simp only [emptyS, beq_iff_eq]; exact h)] at he
    have hm : mayL xs = 4 := by rw [mayL, if_pos h0, if_pos he]
    refine Leaf.mk (ret1 (show 4 = checkL xs from ?_))
    rw [checkL, if_neg (by rw [hm]; decide), hm]
  · rw [any_skip stk0 (by omega) (show emptyS (xs.getD i stk0) = false from by rw [emptyS, beq_eq_false_iff_ne]; exact h)] at he
    exact Leaf.mk ⟨i + 1, rfl, ⟨by omega, he⟩, by omega⟩
  rw [any_end (by omega)] at he
  have hM : mayL xs = if Up xs xs.length then 0 else 12 := by
    rw [mayL, if_pos h0, if_neg (by rw [he]; simp)]
  refine LoopVC.on (fun i : Nat => [(6, .i .i64 i)]) (fun _ => []) (fun i => 1 ≤ i ∧ Up xs i) (fun i => xs.length - i) 1 rfl ⟨by omega, fun j hj hj1 => by omega⟩ ?_
  intro i ⟨hi, hu⟩
  repeat' (first | ((with_reducible refine Ev.mk ?_); conv => whnf) | (with_reducible refine And.intro ?_ ?_) | (intro h))
  all_goals (try simp only [decide_eq_true_eq, decide_eq_false_iff_not, beq_iff_eq, bne_iff_ne, beq_eq_false_iff_ne, bne_eq_false_iff_eq, Int.toNat_natCast, ge_iff_le, gt_iff_lt, Bool.not_eq_true', Bool.not_eq_false', Int.not_lt, Int.not_le, ne_eq] at *)
  all_goals (try dsimp only [Ty.den, Ty.dflt, StT] at *)
  all_goals (try simp only [eq4, ne4, eq3, ne3, eq2, ne2, Prod.eta, List.length_cons, List.length_nil, List.length_append, Nat.zero_add] at *)
  all_goals (try simp (disch := omega) only [wrap64] at *)
  all_goals try first | exact leafDraw (by kernel_rfl) | exact Leaf.mk trivial | (refine Leaf.mk ?_; omega) | (refine Leaf.mk ?_; unfold maxLen; omega)
  all_goals try rw [show ((i : Int) - 1).toNat = i - 1 by omega] at h
  · refine Leaf.mk (ret1 (show 12 = checkL xs from ?_))
    have hm : mayL xs = 12 := by rw [hM, if_neg (up_not hi (by omega) h)]
    rw [checkL, if_neg (by rw [hm]; decide), hm]
  · exact Leaf.mk ⟨i + 1, rfl, ⟨by omega, up_step hu (sless_iff.1 h)⟩, by omega⟩
  all_goals
    have hm : mayL xs = 0 := by rw [hM, if_pos (show Up xs xs.length from fun j hj hj1 => hu j (by omega) hj1)]
  · exact Leaf.mk (show xs.length ≤ 100000 by omega)
  · have h9 : (1016 : Int) < ((sizeF xs : Nat) : Int) := h
    refine Leaf.mk (ret1 (show 5 = checkL xs from ?_))
    rw [checkL, if_pos hm, if_pos (by omega)]
  · have h9 : ((sizeF xs : Nat) : Int) ≤ (1016 : Int) := h
    refine Leaf.mk (ret1 (show 0 = checkL xs from ?_))
    rw [checkL, if_pos hm, if_neg (by omega)]
def sLPutR : PSpec := ⟨[.d SsT], [⟨false, [.d BT]⟩, ⟨false, [.d (.int .i64)]⟩], fun x => List.length x.1 ≤ 100000, fun x => (((putL x.1).1, ()), ((putL x.1).2, ()), ())⟩
theorem fLPutR : FnOk Tryz.prog 32 := ⟨_, Tryz.func32, by decide, rfl⟩
theorem pLPutR : PSound Tryz.prog 32 sLPutR := by
  refine psound (T := tab) (S := (spOf [(25, sLCheckR.spec (lsOf [])), (89, sLay14R.spec (lsOf []))])) (keep := k32) (by kernel_rfl) tabOk (spCons (pOk pLCheckR fLCheckR (by decide) lsNil) (spCons (pOk pLay14R fLay14R (by decide) lsNil) spNil)) (by kernel_rfl) Tryz.func32 (by kernel_rfl) (by decide) fun xs hg hp => ?_
  obtain ⟨l, ⟨⟩⟩ := xs
  change List Stk at l
  change l.length ≤ 100000 at hp
  clear hg
  show vfun tab _ k32 Tryz.f32 [.sl StT l] [] _
  refine Ev.out ?_
  repeat' (first | ((with_reducible refine Ev.mk ?_); conv => whnf) | (with_reducible refine And.intro ?_ ?_) | (intro h))
  all_goals (try simp only [decide_eq_true_eq, decide_eq_false_iff_not, beq_iff_eq, bne_iff_ne, beq_eq_false_iff_ne, bne_eq_false_iff_eq, Int.toNat_natCast, ge_iff_le, gt_iff_lt, Bool.not_eq_true', Bool.not_eq_false', Int.not_lt, Int.not_le, ne_eq] at *)
  all_goals (try dsimp only [Ty.den, Ty.dflt, StT] at *)
  all_goals (try simp only [eq4, ne4, eq3, ne3, eq2, ne2, Prod.eta, List.length_cons, List.length_nil, List.length_append, Nat.zero_add] at *)
  all_goals (try simp (disch := omega) only [wrap64] at *)
  all_goals try first | exact leafDraw (by kernel_rfl) | exact Leaf.mk trivial | (refine Leaf.mk ?_; omega) | (refine Leaf.mk ?_; unfold maxLen; omega)
  all_goals try exact Leaf.mk (show l.length ≤ 100000 by omega)
  all_goals first
    | (refine Leaf.mk (retP (u := ([], checkL l)) (v := putL l) ?_)
       rw [putL, if_neg (show ¬ checkL l = 0 from ‹_›)])
    | (refine Leaf.mk (retP (u := (layF l, 0)) (v := putL l) ?_)
       rw [putL, if_pos (show checkL l = 0 from ‹_›)])
def sLGet : PSpec := ⟨[.d BT], [⟨true, [.d SsT]⟩, ⟨false, [.d (.int .i64)]⟩], fun x => List.length (α := Int) x.1 ≤ 50000, fun x => (((getL x.1).1, ()), ((getL x.1).2, ()), ())⟩
theorem retGl {u v : List Stk × Int} (h : u = v) : (some ((u.1, ()), (u.2, ()), ()) : Option ((List Stk × Unit) × (Int × Unit) × Unit)) = some ((v.1, ()), (v.2, ()), ()) := by rw [h]
theorem putL_zero {l : List Stk} (h : (putL l).2 = 0) : checkL l = 0 ∧ (putL l).1 = layF l := by
  unfold putL at h ⊢
  split at h
  · rename_i hc; rw [if_pos hc]; exact ⟨hc, rfl⟩
  · rename_i hc; exact absurd h hc
theorem putL_not {l : List Stk} (h : ¬ (putL l).2 = 0) : ¬ checkL l = 0 := fun hc => h (by unfold putL; rw [if_pos hc])
theorem rdSmall_pos {b : List Int} (hx : ∀ x ∈ b, Eng.Good (.int .u8) x) (e : Int) : 0 ≤ (rdSmall b e).1 := by
  have := (getSmall_bd hx).2
  unfold rdSmall
  repeat' split
  all_goals first | exact Int.le_refl 0 | exact this
theorem rdSmall_less {b : List Int} (hx : ∀ x ∈ b, Eng.Good (.int .u8) x) {e : Int} (h : (rdSmall b e).2.2 = 0) : (rdSmall b e).2.1.length < b.length := by
  have h0 := byte0 hx 0
  unfold rdSmall at h ⊢
  split at h
  · rename_i hc; exact absurd h hc
  rename_i hc
  rw [if_neg hc]
  split at h
  · rename_i hc2; exact absurd h hc2
  rename_i hc2
  rw [if_neg hc2]
  split at h
  · exact absurd h (show ¬ (9 : Int) = 0 by decide)
  rename_i hc3
  rw [if_neg hc3]
  dsimp only
  have hg : (getSmall b).2.2 = 0 := Classical.not_not.1 hc2
  rw [List.length_drop]
  unfold getSmall at hg ⊢
  split at hg
  · exact absurd hg (by decide)
  rename_i k1
  rw [if_neg k1]
  split at hg
  · exact absurd hg (by decide)
  rename_i k2
  rw [if_neg k2]
  split at hg
  · exact absurd hg (by decide)
  rename_i k3
  rw [if_neg k3]
  split at hg
  · exact absurd hg (by decide)
  rename_i k4
  rw [if_neg k4]
  dsimp only
  omega
theorem round_l {l : List Stk} {i : Nat} (h : checkL l = 0) (hi : i < l.length) : rdSmall ((l.drop i).flatMap one) 0 = ((((putS (l.getD i stk0)).length : Nat) : Int), putS (l.getD i stk0) ++ (l.drop (i + 1)).flatMap one, 0) := by
  rw [drop_at stk0 hi, List.flatMap_cons, rdSmall_one ((leafOk h).all _ (getD_mem stk0 hi))]
structure RoundL (b : List Int) (N : Int) (i : Nat) (k : Int) (R : List Int) (E : Int) (acc : List Stk) : Prop where
  go : ∀ l, checkL l = 0 → layF l = b → i < l.length → k = ((putS (l.getD i stk0)).length : Nat) ∧ R = putS (l.getD i stk0) ++ (l.drop (i + 1)).flatMap one ∧ E = 0
  num : ∀ l, checkL l = 0 → layF l = b → N = l.length ∧ i ≤ l.length ∧ acc = l.take i
theorem RoundL.left {b R : List Int} {N k E : Int} {i : Nat} {acc : List Stk} (h : RoundL b N i k R E acc) (hi : (i : Int) < N) (hk : (R.length : Int) < k) : getL b = ([], 4) := getL_not fun l hl hb => by
  have := h.num l hl hb
  obtain ⟨h1, h2, -⟩ := h.go l hl hb (by omega)
  rw [h1, h2, List.length_append] at hk; omega
theorem RoundL.got {b R : List Int} {N k E : Int} {i : Nat} {acc : List Stk} (h : RoundL b N i k R E acc) (hi : (i : Int) < N) (hk : ¬ (getS (R.take k.toNat)).2 = 0) : getL b = ([], 4) := getL_not fun l hl hb => by
  have := h.num l hl hb
  obtain ⟨h1, h2, -⟩ := h.go l hl hb (by omega)
  rw [h1, h2, Int.toNat_natCast, List.take_left' rfl, getS_put ((leafOk hl).all _ (getD_mem stk0 (by omega))) rfl] at hk
  exact hk rfl
theorem RoundL.next {b R : List Int} {N k E : Int} {i : Nat} {acc : List Stk} (h : RoundL b N i k R E acc) (hi : (i : Int) < N) : ∀ l, checkL l = 0 → layF l = b → N = l.length ∧ i + 1 ≤ l.length ∧ R.drop k.toNat = (l.drop (i + 1)).flatMap one ∧ E = 0 ∧ acc ++ [(getS (R.take k.toNat)).1] = l.take (i + 1) := fun l hl hb => by
  have h0 := h.num l hl hb
  obtain ⟨h1, h2, h3⟩ := h.go l hl hb (by omega)
  have hil : i < l.length := by omega
  rw [h1, h2, Int.toNat_natCast, List.take_left' rfl, List.drop_left' rfl, getS_put ((leafOk hl).all _ (getD_mem stk0 hil)) rfl, take_at stk0 hil, h0.2.2]
  exact ⟨h0.1, hil, rfl, h3, rfl⟩
theorem end_l {b : List Int} {N : Int} {i : Nat} {rb : List Int} {acc : List Stk} (h : ∀ l, checkL l = 0 → layF l = b → N = l.length ∧ i ≤ l.length ∧ rb = (l.drop i).flatMap one ∧ acc = l.take i) (hi : N ≤ (i : Int) ∨ rb.length = 0) : ∀ l, checkL l = 0 → layF l = b → acc = l := fun l hl hb => by
  obtain ⟨h1, h2, h3, h4⟩ := h l hl hb
  rcases hi with hi | hi
  · rw [h4, List.take_of_length_le (by omega)]
  · have := len_sum (l.drop i)
    rw [sumN, ← h3, List.length_drop] at this
    rw [h4, List.take_of_length_le (by omega)]
theorem fin_bad {b : List Int} {acc : List Stk} (h : ∀ l, checkL l = 0 → layF l = b → acc = l) (hp : ¬ (putL acc).2 = 0) : getL b = ([], 4) := getL_not fun l hl hb => by
  have := h l hl hb
  subst this
  exact putL_not hp hl
theorem fin_not {b : List Int} {acc : List Stk} (h : ∀ l, checkL l = 0 → layF l = b → acc = l) (hp : (putL acc).2 = 0) (hn : ¬ strOfBytes (putL acc).1 = strOfBytes b) : getL b = ([], 4) := getL_not fun l hl hb => by
  have := h l hl hb
  subst this
  rw [(putL_zero hp).2, hb] at hn
  exact hn rfl
theorem fin_yes {b : List Int} {acc : List Stk} (hB : isB b) (hp : (putL acc).2 = 0) (hn : strOfBytes (putL acc).1 = strOfBytes b) : getL b = (acc, 0) := by
  obtain ⟨h1, h2⟩ := putL_zero hp
  rw [h2] at hn
  exact getL_put h1 (str_inj (isB_layF _) hB hn)
theorem fLGet : FnOk Tryz.prog 33 := ⟨_, Tryz.func33, by decide, rfl⟩
theorem pLGet : PSound Tryz.prog 33 sLGet := by
  refine psound (T := tab) (S := (spOf [(95, sNew.spec (lsOf [])), (96, sSmall.spec), (97, sLeft.spec), (98, sSGet.spec (lsOf [])), (31, sLPut.spec (lsOf [])), (99, sBEqual.spec (lsOf []))])) (keep := k33) (by kernel_rfl) tabOk (spCons (.inl ⟨nOk lsNil pNew, fNew⟩) (spCons (.inl ⟨pSmall, fSmall⟩) (spCons (.inl ⟨pLeft, fLeft⟩) (spCons (pOk pSGet fSGet (by decide) lsNil) (spCons (pOk pLPut fLPut (by decide) lsNil) (spCons (pOk pBEqual fBEqual (by decide) lsNil) spNil)))))) (by kernel_rfl) Tryz.func33 (by kernel_rfl) (by decide) fun xs hg hp => ?_
  obtain ⟨b, ⟨⟩⟩ := xs
  obtain ⟨⟨-, hx⟩, -⟩ := hg
  change List Int at b
  change b.length ≤ 50000 at hp
  have hB : isB b := isB_good hx
  change ∀ x ∈ b, Eng.Good (.int .u8) x at hx
  have hb1 := rdSmall_suf b 0
  have hl1 := suf_len hb1
  show vfun tab _ k33 Tryz.f33 [.sl (.int .u8) b] [] _
  refine Ev.out ?_
  repeat' (first | ((with_reducible refine Ev.mk ?_); conv => whnf) | (with_reducible refine And.intro ?_ ?_) | (intro h))
  all_goals (try simp only [decide_eq_true_eq, decide_eq_false_iff_not, beq_iff_eq, bne_iff_ne, beq_eq_false_iff_ne, bne_eq_false_iff_eq, Int.toNat_natCast, ge_iff_le, gt_iff_lt, Bool.not_eq_true', Bool.not_eq_false', Int.not_lt, Int.not_le, ne_eq] at *)
  all_goals (try dsimp only [Ty.den, Ty.dflt, StT, sNew, sSmall] at *)
  all_goals (try simp only [eq4, ne4, eq3, ne3, eq2, ne2, Prod.eta, List.length_cons, List.length_nil, List.length_append, Nat.zero_add] at *)
  all_goals (try simp (disch := omega) only [wrap64] at *)
  all_goals try first | exact leafDraw (by kernel_rfl) | exact Leaf.mk trivial | (refine Leaf.mk ?_; omega) | (refine Leaf.mk ?_; unfold maxLen; omega)
  generalize hN : (rdSmall b 0).1 = N
  generalize hb0 : (rdSmall b 0).2.1 = b0 at *
  generalize he0 : (rdSmall b 0).2.2 = e0
  have h0 : ∀ l, checkL l = 0 → layF l = b → N = l.length ∧ b0 = l.flatMap one ∧ e0 = 0 := fun l hl hb => by
    have h1 := rd_lay hl
    rw [hb] at h1
    rw [h1] at hN hb0 he0
    exact ⟨hN.symm, hb0.symm, he0.symm⟩
  refine LoopVC.weak [(.cell 2 0, .nil 38 StT)] (fun a : Nat × List Int × Int × List Stk => [(7, .i .i64 a.1)]) (fun a => [(1, .box [.sl (.int .u8) a.2.1, .i .i64 a.2.2.1]), (3, .arr 38 StT a.2.2.2)]) (fun a => a.2.1 <:+ b ∧ a.1 + a.2.1.length ≤ b.length ∧ a.2.2.2.length = a.1 ∧ ∀ l, checkL l = 0 → layF l = b → N = l.length ∧ a.1 ≤ l.length ∧ a.2.1 = (l.drop a.1).flatMap one ∧ a.2.2.1 = 0 ∧ a.2.2.2 = l.take a.1) (fun a => a.2.1.length) (0, b0, e0, []) (Ev.mk ?_)
  (conv => whnf)
  refine ⟨Leaf.mk ?_, Leaf.mk ?_, ?_⟩
  · rfl
  · refine ⟨hb1, by dsimp only; omega, rfl, fun l hl hb => ?_⟩
    obtain ⟨h1, h2, h3⟩ := h0 l hl hb
    exact ⟨h1, Nat.zero_le _, h2, h3, rfl⟩
  intro ⟨i, rb, re, acc⟩ ⟨hrb, hil, hacc, hv⟩
  dsimp only at hrb hil hacc hv ⊢
  have hrl := suf_len hrb
  have hs1 := rdSmall_suf rb re
  have hs1l := suf_len hs1
  repeat' (first | ((with_reducible refine Ev.mk ?_); conv => whnf) | (with_reducible refine And.intro ?_ ?_) | (intro h))
  all_goals (try simp only [decide_eq_true_eq, decide_eq_false_iff_not, beq_iff_eq, bne_iff_ne, beq_eq_false_iff_ne, bne_eq_false_iff_eq, Int.toNat_natCast, ge_iff_le, gt_iff_lt, Bool.not_eq_true', Bool.not_eq_false', Int.not_lt, Int.not_le, ne_eq] at *)
  all_goals (try dsimp only [Ty.den, Ty.dflt, StT, sNew, sSmall, sLeft] at *)
  all_goals (try simp only [eq4, ne4, eq3, ne3, eq2, ne2, Prod.eta, List.length_cons, List.length_nil, List.length_append, Nat.zero_add] at *)
  all_goals (try simp (disch := omega) only [wrap64] at *)
  all_goals try first | exact leafDraw (by kernel_rfl) | exact Leaf.mk trivial | (refine Leaf.mk ?_; omega) | (refine Leaf.mk ?_; unfold maxLen; omega)
  all_goals
    have hcut := suf_cut (hs1.trans hrb)
    have hk0 : 0 ≤ (rdSmall rb re).1 := rdSmall_pos (fun x h => hx x (hrb.subset h)) re
    have hRB : (rdSmall rb re).2.1 <:+ b := hs1.trans hrb
    try simp only [hcut] at *
    have hE : RoundL b N i (rdSmall rb re).1 (rdSmall rb re).2.1 (rdSmall rb re).2.2 acc := ⟨fun l hl hb hi => by
      obtain ⟨h1, h2, h3, h4, h5⟩ := hv l hl hb
      rw [h3, h4, round_l hl hi]; exact ⟨rfl, rfl, rfl⟩, fun l hl hb => by
      obtain ⟨h1, h2, h3, h4, h5⟩ := hv l hl hb
      exact ⟨h1, h2, h5⟩⟩
    have hend : N ≤ (i : Int) ∨ rb.length = 0 → ∀ l, checkL l = 0 → layF l = b → acc = l := end_l fun l hl hb => by
      obtain ⟨h1, h2, h3, h4, h5⟩ := hv l hl hb
      exact ⟨h1, h2, h3, h5⟩
    have hno : (i : Int) < N → (rdSmall rb re).2.1.length = rb.length → getL b = ([], 4) := fun hi hc => getL_not fun l hl hb => by
      obtain ⟨h1, h2, h3, h4, h5⟩ := hv l hl hb
      have h6 := (hE.go l hl hb (by omega)).2.1
      have h7 : rb = one (l.getD i stk0) ++ (l.drop (i + 1)).flatMap one := by rw [h3, drop_at stk0 (by omega), List.flatMap_cons]
      rw [h6, h7, one_okk ((leafOk hl).all _ (getD_mem stk0 (by omega)))] at hc
      have := (putSmall_len ((putS (l.getD i stk0)).length : Nat)).1
      simp only [List.length_append] at hc; omega
    generalize (rdSmall rb re).1 = k at *
    generalize (rdSmall rb re).2.1 = R at *
    generalize (rdSmall rb re).2.2 = E at *
  · exact Leaf.mk (retGl (u := ([], 4)) (v := getL b) (hno (by omega) (by omega)).symm)
  · exact Leaf.mk (retGl (u := ([], 4)) (v := getL b) (hE.left (by omega) (by omega)).symm)
  · exact Leaf.mk hk0
  · refine Leaf.mk (show List.length (α := Int) _ ≤ 100000 from ?_)
    rw [List.length_drop, List.length_take]; omega
  · exact Leaf.mk (retGl (u := ([], 4)) (v := getL b) (hE.got (by omega) (show ¬ (getS (R.take k.toNat)).2 = 0 from h)).symm)
  · exact Leaf.mk hk0
  · refine Leaf.mk ?_
    rw [List.length_drop, List.length_take]; omega
  · refine Leaf.mk (Exists.intro (i + 1, R.drop k.toNat, 0, acc ++ [(getS (R.take k.toNat)).1]) ⟨?_, ⟨(List.drop_suffix _ _).trans hRB, ?_, by dsimp only; rw [List.length_append]; simp; omega, fun l hl hb => ?_⟩, ?_⟩)
    · rw [List.take_length]; rfl
    · dsimp only; rw [List.length_drop]; omega
    · obtain ⟨h1, h2, h3, h4, h5⟩ := hE.next (by omega) l hl hb
      exact ⟨h1, h2, h3, rfl, h5⟩
    · dsimp only; rw [List.length_drop]; omega
  all_goals try exact Leaf.mk (show acc.length ≤ 100000 by omega)
  all_goals
    have hend := hend (by omega)
  all_goals first
    | exact Leaf.mk (retGl (u := ([], 4)) (v := getL b) (fin_bad hend (show ¬ (putL acc).2 = 0 from ‹_›)).symm)
    | exact Leaf.mk (retGl (u := ([], 4)) (v := getL b) (fin_not hend (show (putL acc).2 = 0 from ‹_›) (fun hc => beq_eq_false_iff_ne.1 (show (strOfBytes b == strOfBytes (putL acc).1) = false from ‹_›) hc.symm)).symm)
    | exact Leaf.mk (retGl (u := (acc, 0)) (v := getL b) (fin_yes hB (show (putL acc).2 = 0 from ‹_›) (beq_iff_eq.1 (show (strOfBytes b == strOfBytes (putL acc).1) = true from ‹_›)).symm).symm)
def sLGetR : PSpec := ⟨[.d BT], [⟨false, [.d SsT]⟩, ⟨false, [.d (.int .i64)]⟩], fun x => List.length (α := Int) x.1 ≤ 50000, fun x => (((getL x.1).1, ()), ((getL x.1).2, ()), ())⟩
theorem fLGetR : FnOk Tryz.prog 34 := ⟨_, Tryz.func34, by decide, rfl⟩
theorem pLGetR : PSound Tryz.prog 34 sLGetR := by
  refine psound (T := tab) (S := (spOf [(100, sRSmall.spec (lsOf [])), (101, sSGetR.spec (lsOf [])), (32, sLPutR.spec (lsOf []))])) (keep := k34) (by kernel_rfl) tabOk (spCons (pOk pRSmall fRSmall (by decide) lsNil) (spCons (pOk pSGetR fSGetR (by decide) lsNil) (spCons (pOk pLPutR fLPutR (by decide) lsNil) spNil))) (by kernel_rfl) Tryz.func34 (by kernel_rfl) (by decide) fun xs hg hp => ?_
  obtain ⟨b, ⟨⟩⟩ := xs
  obtain ⟨⟨-, hx⟩, -⟩ := hg
  change List Int at b
  change b.length ≤ 50000 at hp
  have hB : isB b := isB_good hx
  change ∀ x ∈ b, Eng.Good (.int .u8) x at hx
  have hb1 := rdSmall_suf b 0
  have hl1 := suf_len hb1
  show vfun tab _ k34 Tryz.f34 [.sl (.int .u8) b] [] _
  refine Ev.out ?_
  repeat' (first | ((with_reducible refine Ev.mk ?_); conv => whnf) | (with_reducible refine And.intro ?_ ?_) | (intro h))
  all_goals (try simp only [decide_eq_true_eq, decide_eq_false_iff_not, beq_iff_eq, bne_iff_ne, beq_eq_false_iff_ne, bne_eq_false_iff_eq, Int.toNat_natCast, ge_iff_le, gt_iff_lt, Bool.not_eq_true', Bool.not_eq_false', Int.not_lt, Int.not_le, ne_eq] at *)
  all_goals (try dsimp only [Ty.den, Ty.dflt, StT, sRSmall] at *)
  all_goals (try simp only [eq4, ne4, eq3, ne3, eq2, ne2, Prod.eta, List.length_cons, List.length_nil, List.length_append, Nat.zero_add] at *)
  all_goals (try simp (disch := omega) only [wrap64] at *)
  all_goals try first | exact leafDraw (by kernel_rfl) | exact Leaf.mk trivial | (refine Leaf.mk ?_; omega) | (refine Leaf.mk ?_; unfold maxLen; omega)
  generalize hN : (rdSmall b 0).1 = N
  generalize hb0 : (rdSmall b 0).2.1 = b0 at *
  generalize he0 : (rdSmall b 0).2.2 = e0
  have h0 : ∀ l, checkL l = 0 → layF l = b → N = l.length ∧ b0 = l.flatMap one ∧ e0 = 0 := fun l hl hb => by
    have h1 := rd_lay hl
    rw [hb] at h1
    rw [h1] at hN hb0 he0
    exact ⟨hN.symm, hb0.symm, he0.symm⟩
  have hz : ∀ (c : List Int) (e : Int), ¬ e = 0 → rdSmall c e = (0, c, e) := fun c e h => by rw [rdSmall, if_pos h]
  refine LoopVC.weak [(.slot 6, .nil 38 StT)] (fun a : Nat × List Int × Int × List Stk => [(8, .i .i64 a.1)]) (fun a => [(0, .box [.sl (.int .u8) a.2.1, .i .i64 a.2.2.1]), (1, .arr 38 StT a.2.2.2)]) (fun a => a.2.1 <:+ b ∧ a.1 + a.2.1.length ≤ b.length + 1 ∧ (a.2.2.1 = 0 → a.1 + a.2.1.length ≤ b.length) ∧ a.2.2.2.length = a.1 ∧ ∀ l, checkL l = 0 → layF l = b → N = l.length ∧ a.1 ≤ l.length ∧ a.2.1 = (l.drop a.1).flatMap one ∧ a.2.2.1 = 0 ∧ a.2.2.2 = l.take a.1) (fun a => if a.2.2.1 = 0 then a.2.1.length + 1 else 0) (0, b0, e0, []) (Ev.mk ?_)
  (conv => whnf)
  refine ⟨Leaf.mk ?_, Leaf.mk ?_, ?_⟩
  · rfl
  · refine ⟨hb1, by dsimp only; omega, fun _ => by dsimp only; omega, rfl, fun l hl hb => ?_⟩
    obtain ⟨h1, h2, h3⟩ := h0 l hl hb
    exact ⟨h1, Nat.zero_le _, h2, h3, rfl⟩
  intro ⟨i, rb, re, acc⟩ ⟨hrb, hil, hil0, hacc, hv⟩
  dsimp only at hrb hil hil0 hacc hv ⊢
  have hrl := suf_len hrb
  have hs1 := rdSmall_suf rb re
  have hs1l := suf_len hs1
  repeat' (first | ((with_reducible refine Ev.mk ?_); conv => whnf) | (with_reducible refine And.intro ?_ ?_) | (intro h))
  all_goals (try simp only [decide_eq_true_eq, decide_eq_false_iff_not, beq_iff_eq, bne_iff_ne, beq_eq_false_iff_ne, bne_eq_false_iff_eq, Int.toNat_natCast, ge_iff_le, gt_iff_lt, Bool.not_eq_true', Bool.not_eq_false', Int.not_lt, Int.not_le, ne_eq] at *)
  all_goals (try dsimp only [Ty.den, Ty.dflt, StT, sRSmall] at *)
  all_goals (try simp only [eq4, ne4, eq3, ne3, eq2, ne2, Prod.eta, List.length_cons, List.length_nil, List.length_append, Nat.zero_add] at *)
  all_goals (try simp (disch := omega) only [wrap64] at *)
  all_goals try first | exact leafDraw (by kernel_rfl) | exact Leaf.mk trivial | (refine Leaf.mk ?_; omega) | (refine Leaf.mk ?_; unfold maxLen; omega)
  all_goals
    have hxr : ∀ x ∈ rb, Eng.Good (.int .u8) x := fun x h => hx x (hrb.subset h)
    have hk0 : 0 ≤ (rdSmall rb re).1 := rdSmall_pos hxr re
    have hls := rdSmall_less hxr (e := re)
    have hRB : (rdSmall rb re).2.1 <:+ b := hs1.trans hrb
    have hE : RoundL b N i (rdSmall rb re).1 (rdSmall rb re).2.1 (rdSmall rb re).2.2 acc := ⟨fun l hl hb hi => by
      obtain ⟨h1, h2, h3, h4, h5⟩ := hv l hl hb
      rw [h3, h4, round_l hl hi]; exact ⟨rfl, rfl, rfl⟩, fun l hl hb => by
      obtain ⟨h1, h2, h3, h4, h5⟩ := hv l hl hb
      exact ⟨h1, h2, h5⟩⟩
    have hend : (N ≤ (i : Int) ∨ rb.length = 0) ∨ ¬ re = 0 → ∀ l, checkL l = 0 → layF l = b → acc = l := fun hc l hl hb => by
      obtain ⟨h1, h2, h3, h4, h5⟩ := hv l hl hb
      exact end_l (fun l hl hb => by obtain ⟨h1, h2, h3, h4, h5⟩ := hv l hl hb; exact ⟨h1, h2, h3, h5⟩) (by rcases hc with hc | hc; exact hc; exact absurd h4 hc) l hl hb
    generalize (rdSmall rb re).1 = k at *
    generalize (rdSmall rb re).2.1 = R at *
    generalize (rdSmall rb re).2.2 = E at *
  · exact Leaf.mk (retGl (u := ([], 4)) (v := getL b) (hE.left (by omega) (by omega)).symm)
  · exact Leaf.mk hk0
  · refine Leaf.mk (show List.length (α := Int) _ ≤ 100000 from ?_)
    rw [List.length_drop, List.length_take]; omega
  · exact Leaf.mk hk0
  · refine Leaf.mk (Exists.intro (i + 1, R.drop k.toNat, E, acc ++ [(getS (R.take k.toNat)).1]) ⟨?_, ⟨(List.drop_suffix _ _).trans hRB, ?_, fun he => ?_, by dsimp only; rw [List.length_append]; simp; omega, fun l hl hb => ?_⟩, ?_⟩)
    · rw [List.take_length]; rfl
    · dsimp only; rw [List.length_drop]; omega
    · have := hls he
      dsimp only; rw [List.length_drop]; omega
    · exact hE.next (by omega) l hl hb
    · dsimp only
      rw [if_pos (show re = 0 from ‹_›)]
      split
      · rename_i he
        have := hls he
        rw [List.length_drop]; omega
      · omega
  all_goals try exact Leaf.mk (show acc.length ≤ 100000 by omega)
  all_goals
    have hend := hend (by omega)
  all_goals first
    | exact Leaf.mk (retGl (u := ([], 4)) (v := getL b) (fin_bad hend (show ¬ (putL acc).2 = 0 from ‹_›)).symm)
    | exact Leaf.mk (retGl (u := ([], 4)) (v := getL b) (fin_not hend (show (putL acc).2 = 0 from ‹_›) (show ¬ strOfBytes (putL acc).1 = strOfBytes b from ‹_›)).symm)
    | exact Leaf.mk (retGl (u := (acc, 0)) (v := getL b) (fin_yes hB (show (putL acc).2 = 0 from ‹_›) (show strOfBytes (putL acc).1 = strOfBytes b from ‹_›)).symm)
end Go.Proofs.YtkmfjlfejdoehaaGreat

set_option linter.unusedVariables false
set_option linter.unusedSimpArgs false
set_option maxRecDepth 8000
set_option maxHeartbeats 4000000
namespace Go.Proofs.YtkmfjlfejdoehaaGreat
open Go.Eng
theorem light_all {l : List Stk} {m : Int} (h : lightL l m = true) : ∀ s ∈ l, s.2.length ≤ 12 := fun s hs => by
  unfold lightL at h
  rw [Bool.and_eq_true, List.all_eq_true] at h
  exact (light_of (h.2 s hs)).2
def sOwn14 : PSpec := ⟨[.d SsT], [⟨true, [.d SsT]⟩], fun x => List.length x.1 ≤ 100000 ∧ ∀ s ∈ x.1, List.length s.2 ≤ 100000, fun x => ((x.1, ()), ())⟩
theorem fOwn14 : FnOk Tryz.prog 13 := ⟨_, Tryz.func13, by decide, rfl⟩
theorem pOwn14 : PSound Tryz.prog 13 sOwn14 := by
  refine psound (T := tab) (S := (spOf [])) (keep := k13) (by kernel_rfl) tabOk spNil (by kernel_rfl) Tryz.func13 (by kernel_rfl) (by decide) fun xs hg hp => ?_
  obtain ⟨l, ⟨⟩⟩ := xs
  change List Stk at l
  change l.length ≤ 100000 ∧ ∀ s ∈ l, List.length s.2 ≤ 100000 at hp
  obtain ⟨hl, hs⟩ := hp
  clear hg
  show vfun tab _ k13 Tryz.f13 [.sl StT l] [] _
  refine Ev.out ?_
  repeat' (first | ((with_reducible refine Ev.mk ?_); conv => whnf) | (with_reducible refine And.intro ?_ ?_) | (intro h))
  all_goals (try simp only [decide_eq_true_eq, decide_eq_false_iff_not, beq_iff_eq, bne_iff_ne, beq_eq_false_iff_ne, bne_eq_false_iff_eq, Int.toNat_natCast, ge_iff_le, gt_iff_lt, Bool.not_eq_true', Bool.not_eq_false', Int.not_lt, Int.not_le, ne_eq] at *)
  all_goals (try dsimp only [Ty.den, Ty.dflt, StT] at *)
  all_goals (try simp only [eq4, ne4, eq3, ne3, eq2, ne2, Prod.eta, List.length_cons, List.length_nil, List.length_append, Nat.zero_add] at *)
  all_goals (try simp (disch := omega) only [wrap64] at *)
  all_goals try first | exact leafDraw (by kernel_rfl) | exact Leaf.mk trivial | (refine Leaf.mk ?_; omega) | (refine Leaf.mk ?_; unfold maxLen; omega)
  refine LoopVC.weak [(.cell 1 0, .nil 38 StT)] (fun i : Nat => [(4, .i .i64 i)]) (fun i => [(2, .arr 38 StT (l.take i))]) (fun i => i ≤ l.length) (fun i => l.length - i) 0 (Ev.mk ?_)
  (conv => whnf)
  refine ⟨Leaf.mk ?_, Leaf.mk ?_, ?_⟩
  · rfl
  · omega
  intro i hi
  have hsi : i < l.length → (l.getD i stk0).2.length ≤ 100000 := fun h => hs _ (getD_mem stk0 h)
  repeat' (first | ((with_reducible refine Ev.mk ?_); conv => whnf) | (with_reducible refine And.intro ?_ ?_) | (intro h))
  all_goals (try simp only [decide_eq_true_eq, decide_eq_false_iff_not, beq_iff_eq, bne_iff_ne, beq_eq_false_iff_ne, bne_eq_false_iff_eq, Int.toNat_natCast, ge_iff_le, gt_iff_lt, Bool.not_eq_true', Bool.not_eq_false', Int.not_lt, Int.not_le, ne_eq] at *)
  all_goals (try dsimp only [Ty.den, Ty.dflt, StT] at *)
  all_goals (try simp only [eq4, ne4, eq3, ne3, eq2, ne2, Prod.eta, List.length_cons, List.length_nil, List.length_append, Nat.zero_add] at *)
  all_goals (try simp (disch := omega) only [wrap64] at *)
  all_goals try first | exact leafDraw (by kernel_rfl) | exact Leaf.mk trivial | (refine Leaf.mk ?_; omega) | (refine Leaf.mk ?_; unfold maxLen; omega)
  all_goals try
    have htl : (l.take i).length = i := by rw [List.length_take]; omega
  all_goals first
    | (refine Leaf.mk ?_; have := hsi (by omega); dsimp only [stk0] at this; omega)
    | (refine Leaf.mk ?_; have := hsi (by omega); dsimp only [stk0] at this; unfold maxLen; omega)
    | (refine Leaf.mk ?_; omega)
    | (refine Leaf.mk ?_; unfold maxLen; omega)
    | (refine Leaf.mk (Exists.intro (i + 1) ⟨?_, by omega, by omega⟩)
       rw [take_at stk0 (by omega)]; rfl)
    | (refine Leaf.mk (ret1 (show l.take i = l from ?_))
       exact List.take_of_length_le (by omega))
def sWrite14 : PSpec := ⟨[.d .str], [⟨true, [.d MsgT]⟩], fun _ => True, fun x => (((0, x.1, 1, 0, false, [118]), ()), ())⟩
theorem fWrite14 : FnOk Tryz.prog 64 := ⟨_, Tryz.func64, by decide, rfl⟩
theorem pWrite14 : PSound Tryz.prog 64 sWrite14 := by
  refine psound (T := tab) (S := (spOf [])) (keep := k64) (by kernel_rfl) tabOk spNil (by kernel_rfl) Tryz.func64 (by kernel_rfl) (by decide) fun xs hg hp => ?_
  obtain ⟨k, ⟨⟩⟩ := xs
  change List UInt8 at k
  show vfun tab _ k64 Tryz.f64 [.s k] [] _
  refine Ev.out ?_
  repeat' (first | ((with_reducible refine Ev.mk ?_); conv => whnf) | (with_reducible refine And.intro ?_ ?_) | (intro h))
  all_goals exact Leaf.mk rfl
def sAwake14 : PSpec := ⟨[], [⟨false, [.d .bool]⟩], fun _ => True, fun _ => ((true, ()), ())⟩
theorem fAwake14 : FnOk Tryz.prog 12 := ⟨_, Tryz.func12, by decide, rfl⟩
theorem pAwake14 : PSound Tryz.prog 12 sAwake14 := by
  refine psound (T := tab) (S := (spOf [(64, sWrite14.spec (lsOf [])), (15, sLApply.spec (lsOf [])), (29, sLSplit.spec (lsOf [])), (31, sLPut.spec (lsOf [])), (33, sLGet.spec (lsOf [])), (19, sLFind.spec (lsOf [])), (17, sLOver.spec (lsOf [])), (26, sLSize.spec (lsOf [])), (28, sLSame.spec (lsOf [])), (22, sLRange.spec (lsOf [])), (35, sLJoin.spec (lsOf [])), (24, sLCheck.spec (lsOf []))])) (keep := k12) (by kernel_rfl) tabOk (spCons (pOk pWrite14 fWrite14 (by decide) lsNil) (spCons (pOk pLApply fLApply (by decide) lsNil) (spCons (pOk pLSplit fLSplit (by decide) lsNil) (spCons (pOk pLPut fLPut (by decide) lsNil) (spCons (pOk pLGet fLGet (by decide) lsNil) (spCons (pOk pLFind fLFind (by decide) lsNil) (spCons (pOk pLOver fLOver (by decide) lsNil) (spCons (pOk pLSize fLSize (by decide) lsNil) (spCons (pOk pLSame fLSame (by decide) lsNil) (spCons (pOk pLRange fLRange (by decide) lsNil) (spCons (pOk pLJoin fLJoin (by decide) lsNil) (spCons (pOk pLCheck fLCheck (by decide) lsNil) spNil)))))))))))) (by kernel_rfl) Tryz.func12 (by kernel_rfl) (by decide) fun xs hg hp => ?_
  obtain ⟨⟩ := xs
  show vfun tab _ k12 Tryz.f12 [] [] _
  refine Ev.out ?_
  repeat' (first | ((with_reducible refine Ev.mk ?_); conv => whnf) | (with_reducible refine And.intro ?_ ?_) | (intro h; first | exact absurd h (by decide +kernel) | skip))
  all_goals first
    | exact Leaf.mk trivial
    | exact leafDraw (by kernel_rfl)
    | (refine Leaf.mk ?_; change _ ∧ _; decide +kernel)
    | (refine Leaf.mk ?_; change (_ : Nat) ≤ _; decide +kernel)
    | (refine Leaf.mk ?_; decide +kernel)
    | (refine Leaf.mk ?_; change _ ∧ _ ∧ _ ∧ List.Pairwise _ _; decide +kernel)
    | exact Leaf.mk rfl
end Go.Proofs.YtkmfjlfejdoehaaGreat

set_option linter.unusedVariables false
set_option linter.unusedSimpArgs false
set_option maxRecDepth 8000
set_option maxHeartbeats 4000000
namespace Go.Proofs.YtkmfjlfejdoehaaGreat
open Go.Eng
theorem ownP {l : List Stk} {m : Int} (hm : m ≤ 100) (h : lightL l m = true) : l.length ≤ 100000 ∧ ∀ s ∈ l, List.length s.2 ≤ 100000 := by
  have h1 := lightL_len h
  exact ⟨by omega, fun s hs => by have := light_all h s hs; omega⟩
theorem appP {l : List Stk} {m : Int} (hm : m ≤ 100) (h : lightL l m = true) : l.length ≤ 1000 ∧ ∀ s ∈ l, List.length s.2 ≤ 1000 := by
  have h1 := lightL_len h
  exact ⟨by omega, fun s hs => by have := light_all h s hs; omega⟩
theorem lenP {l : List Stk} {m : Int} (hm : m ≤ 100) (h : lightL l m = true) : l.length ≤ 100000 := (ownP hm h).1
def sLeafParts : PSpec := lawSpec [SsT, BT]
theorem pLeafParts : PSound Tryz.prog 5 sLeafParts := by
  refine psound (T := tab) (S := (spOf [(10, sLight14.spec (lsOf [])), (12, sAwake14.spec (lsOf [])), (13, sOwn14.spec (lsOf [])), (29, sLSplit.spec (lsOf [])), (30, sLSplitR.spec (lsOf [])), (31, sLPut.spec (lsOf [])), (32, sLPutR.spec (lsOf [])), (33, sLGet.spec (lsOf [])), (34, sLGetR.spec (lsOf [])), (14, sSameAll.spec (lsOf []))])) (keep := k5) (by kernel_rfl) tabOk (spCons (pOk pLight14 fLight14 (by decide) lsNil) (spCons (pOk pAwake14 fAwake14 (by decide) lsNil) (spCons (pOk pOwn14 fOwn14 (by decide) lsNil) (spCons (pOk pLSplit fLSplit (by decide) lsNil) (spCons (pOk pLSplitR fLSplitR (by decide) lsNil) (spCons (pOk pLPut fLPut (by decide) lsNil) (spCons (pOk pLPutR fLPutR (by decide) lsNil) (spCons (pOk pLGet fLGet (by decide) lsNil) (spCons (pOk pLGetR fLGetR (by decide) lsNil) (spCons (pOk pSameAll fSameAll (by decide) lsNil) spNil)))))))))) (by kernel_rfl) Tryz.func5 (by kernel_rfl) (by decide) fun xs hg hp => ?_
  obtain ⟨l, b, ⟨⟩⟩ := xs
  change List Stk at l
  change List Int at b
  clear hp hg
  show vfun tab _ k5 Tryz.f5 [.sl StT l, .sl (.int .u8) b] [] _
  refine Ev.out ?_
  repeat' (first | ((with_reducible refine Ev.mk ?_); conv => whnf) | (with_reducible refine And.intro ?_ ?_) | (intro h))
  all_goals (try simp only [decide_eq_true_eq, decide_eq_false_iff_not, beq_iff_eq, bne_iff_ne, beq_eq_false_iff_ne, bne_eq_false_iff_eq, Int.toNat_natCast, ge_iff_le, gt_iff_lt, Bool.not_eq_true', Bool.not_eq_false', Int.not_lt, Int.not_le, ne_eq] at *)
  all_goals (try dsimp only [Ty.den, Ty.dflt, StT, SsT, sLight14] at *)
  all_goals (try simp only [eq4, ne4, eq3, ne3, eq2, ne2, Prod.eta, List.length_cons, List.length_nil, List.length_append, Nat.zero_add] at *)
  all_goals (try simp (disch := omega) only [wrap64] at *)
  all_goals try first | exact leafDraw (by kernel_rfl) | exact Leaf.mk trivial | (refine Leaf.mk ?_; omega) | (refine Leaf.mk ?_; unfold maxLen; omega)
  all_goals first
    | exact Leaf.mk trivial
    | exact Leaf.mk rfl
    | exact absurd rfl h
    | exact Leaf.mk (show List.length l ≤ 100000 ∧ ∀ s ∈ l, List.length s.2 ≤ 100000 from ownP (by decide) ‹lightL l 12 = true›)
    | exact Leaf.mk (show List.length l ≤ 100000 from lenP (by decide) ‹lightL l 12 = true›)
    | exact Leaf.mk (show List.length l ≤ 1000 ∧ ∀ s ∈ l, List.length s.2 ≤ 1000 from appP (by decide) ‹lightL l 12 = true›)
    | exact sameL_self (show sameL l l = false from ‹_›)
    | skip
  all_goals first
    | exact Leaf.mk (show List.length b ≤ 50000 by omega)
    | exact sameL_self (show sameL (splitF l).1 (splitF l).1 = false from ‹_›)
    | exact sameL_self (show sameL (splitF l).2.1 (splitF l).2.1 = false from ‹_›)
    | exact sameL_self (show sameL (getL b).1 (getL b).1 = false from ‹_›)
    | skip
end Go.Proofs.YtkmfjlfejdoehaaGreat
