import Derived.Test.YtkmfjlfejdoehaaGreatQ10
import Derived.Test.YtkmfjlfejdoehaaGreatQ8
import Derived.Test.YtkmfjlfejdoehaaGreatQ9
/- Texts, one behind the other. -/
set_option linter.unusedVariables false
set_option linter.unusedSimpArgs false
set_option maxRecDepth 8000
set_option maxHeartbeats 4000000
namespace Go.Proofs.YtkmfjlfejdoehaaGreat
open Go.Eng
theorem putR_okk {s : Stk} (h : check s = 0) : (putR11 s).1 = putS s := by unfold putR11; rw [if_pos h]
theorem one_okk {s : Stk} (h : check s = 0) : one s = putSmall ((putS s).length : Nat) ++ putS s := by rw [one, putR_okk h]
theorem rdSmall_one {s : Stk} (h : check s = 0) (r : List Int) : rdSmall (one s ++ r) 0 = ((((putS s).length : Nat) : Int), putS s ++ r, 0) := by
  have := putS_len h
  rw [one_okk h, List.append_assoc]
  exact rdSmall_put (by omega) (by omega) _
def rdL : Nat → List Int → List Stk
  | 0, _ => []
  | n + 1, b => (getS ((rdSmall b 0).2.1.take (rdSmall b 0).1.toNat)).1 :: rdL n ((rdSmall b 0).2.1.drop (rdSmall b 0).1.toNat)
theorem rdL_put : ∀ (l : List Stk), (∀ s ∈ l, check s = 0) → rdL l.length (l.flatMap one) = l
  | [], _ => rfl
  | s :: r, h => by
    have hs := h s List.mem_cons_self
    rw [List.length_cons, rdL, List.flatMap_cons, rdSmall_one hs]
    dsimp only
    rw [Int.toNat_natCast, List.take_left' rfl, List.drop_left' rfl, getS_put hs rfl, rdL_put r fun x hx => h x (List.mem_cons_of_mem _ hx)]
def readL (b : List Int) : List Stk := rdL (min (rdSmall b 0).1.toNat 1016) (rdSmall b 0).2.1
def getL (b : List Int) : List Stk × Int := if checkL (readL b) = 0 ∧ layF (readL b) = b then (readL b, 0) else ([], 4)
theorem one_pos (s : Stk) : 1 ≤ (one s).length := by
  have := (putSmall_len ((putR11 s).1.length : Nat)).1
  rw [one, List.length_append]; omega
theorem len_sum : ∀ (l : List Stk), l.length ≤ sumN l
  | [] => Nat.le_refl _
  | s :: r => by
    have := len_sum r
    have := one_pos s
    rw [sumN_cons, List.length_cons]; omega
structure LeafOk (l : List Stk) : Prop where
  all : ∀ s ∈ l, check s = 0
  len : l.length ≤ 1016
  size : sizeF l ≤ 1016
theorem leafOk {l : List Stk} (h : checkL l = 0) : LeafOk l := by
  have h1 : mayL l = 0 ∧ sizeF l ≤ 1016 := by
    unfold checkL at h
    split at h
    · rename_i h1
      split at h
      · omega
      · exact ⟨h1, by omega⟩
    · rename_i h1; exact absurd h h1
  have h2 := len_sum l
  have h3 : sumN l ≤ sizeF l := by rw [sizeF, layF, List.length_append]; exact Nat.le_add_left _ _
  exact ⟨(mayL_zero.1 h1.1).1, by omega, h1.2⟩
theorem rd_lay {l : List Stk} (h : checkL l = 0) : rdSmall (layF l) 0 = (((l.length : Nat) : Int), l.flatMap one, 0) := by
  have := (leafOk h).len
  exact rdSmall_put (by omega) (by omega) _
theorem getL_put {l : List Stk} {b : List Int} (h : checkL l = 0) (hb : layF l = b) : getL b = (l, 0) := by
  subst hb
  have ok := leafOk h
  have hr : readL (layF l) = l := by
    rw [readL, rd_lay h]
    dsimp only
    rw [Int.toNat_natCast, Nat.min_eq_left ok.len, rdL_put l ok.all]
  unfold getL
  rw [hr, if_pos ⟨h, rfl⟩]
theorem getL_not {b : List Int} (h : ∀ l, checkL l = 0 → layF l ≠ b) : getL b = ([], 4) := by
  unfold getL
  rw [if_neg (fun hc => h _ hc.1 hc.2)]
theorem isB_one (s : Stk) : isB (one s) := by
  refine isB_append (isB_small _) ?_
  unfold putR11
  split
  · exact isB_S s
  · exact fun x hx => by simp at hx
theorem isB_layF (l : List Stk) : isB (layF l) := isB_append (isB_small _) fun x hx => by
  obtain ⟨s, _, hs⟩ := List.mem_flatMap.1 hx
  exact isB_one s x hs
def putL (l : List Stk) : List Int × Int := if checkL l = 0 then (layF l, 0) else ([], checkL l)
theorem retP {u v : List Int × Int} (h : u = v) : (some ((u.1, ()), (u.2, ()), ()) : Option ((List Int × Unit) × (Int × Unit) × Unit)) = some ((v.1, ()), (v.2, ()), ()) := by rw [h]
def sLPut : PSpec := ⟨[.st SsT], [⟨false, [.d BT]⟩, ⟨false, [.d (.int .i64)]⟩], fun x => List.length x.1 ≤ 100000, fun x => (((putL x.1).1, ()), ((putL x.1).2, ()), ())⟩
theorem fLPut : FnOk Tryz.prog 31 := ⟨_, Tryz.func31, by decide, rfl⟩
theorem pLPut : PSound Tryz.prog 31 sLPut := by
  refine psound (T := tab) (S := (spOf [(24, sLCheck.spec (lsOf [])), (88, sLay14.spec (lsOf []))])) (keep := k31) (by kernel_rfl) tabOk (spCons (pOk pLCheck fLCheck (by decide) lsNil) (spCons (pOk pLay14 fLay14 (by decide) lsNil) spNil)) (by kernel_rfl) Tryz.func31 (by kernel_rfl) (by decide) fun xs hg hp => ?_
  obtain ⟨l, ⟨⟩⟩ := xs
  change List Stk at l
  change l.length ≤ 100000 at hp
  clear hg
  show vfun tab _ k31 Tryz.f31 [.agg [.sl StT l]] [] _
  refine Ev.out ?_
  repeat' (first | ((with_reducible refine Ev.mk ?_); conv => whnf) | (with_reducible refine And.intro ?_ ?_) | (intro h))
  all_goals (try simp only [decide_eq_true_eq, decide_eq_false_iff_not, beq_iff_eq, bne_iff_ne, beq_eq_false_iff_ne, bne_eq_false_iff_eq, Int.toNat_natCast, ge_iff_le, gt_iff_lt, Bool.not_eq_true', Bool.not_eq_false', Int.not_lt, Int.not_le, ne_eq] at *)
  all_goals (try dsimp only [Ty.den, Ty.dflt, StT] at *)
  all_goals (try simp only [eq4, ne4, eq3, ne3, eq2, ne2, Prod.eta, List.length_cons, List.length_nil, List.length_append, Nat.zero_add] at *)
  all_goals (try simp (disch := omega) only [wrap64] at *)
  all_goals try first | exact leafDraw (by kernel_rfl) | exact Leaf.mk trivial | (refine Leaf.mk ?_; omega) | (refine Leaf.mk ?_; unfold maxLen; omega)
  all_goals try exact Leaf.mk (show l.length ≤ 100000 by omega)
  all_goals first
    | (refine Leaf.mk (retP (u := ([], checkL l)) (v := putL l) ?_)
       rw [putL, if_neg (show ¬ checkL l = 0 from ‹_›)])
    | (refine Leaf.mk (retP (u := (layF l, 0)) (v := putL l) ?_)
       rw [putL, if_pos (show checkL l = 0 from ‹_›)])
def sLGet : PSpec := ⟨[.d BT], [⟨true, [.d SsT]⟩, ⟨false, [.d (.int .i64)]⟩], fun x => List.length (α := Int) x.1 ≤ 50000, fun x => (((getL x.1).1, ()), ((getL x.1).2, ()), ())⟩
theorem retGl {u v : List Stk × Int} (h : u = v) : (some ((u.1, ()), (u.2, ()), ()) : Option ((List Stk × Unit) × (Int × Unit) × Unit)) = some ((v.1, ()), (v.2, ()), ()) := by rw [h]
theorem putL_zero {l : List Stk} (h : (putL l).2 = 0) : checkL l = 0 ∧ (putL l).1 = layF l := by
  unfold putL at h ⊢
  split at h
  · rename_i hc; rw [if_pos hc]; exact ⟨hc, rfl⟩
  · rename_i hc; exact absurd h hc
theorem putL_not {l : List Stk} (h : ¬ (putL l).2 = 0) : ¬ checkL l = 0 := fun hc => h (by unfold putL; rw [if_pos hc])
theorem rdSmall_pos {b : List Int} (hx : ∀ x ∈ b, Eng.Good (.int .u8) x) (e : Int) : 0 ≤ (rdSmall b e).1 := by
  have := (getSmall_bd hx).2
  unfold rdSmall
  repeat' split
  all_goals first | exact Int.le_refl 0 | exact this
theorem round_l {l : List Stk} {i : Nat} (h : checkL l = 0) (hi : i < l.length) : rdSmall ((l.drop i).flatMap one) 0 = ((((putS (l.getD i stk0)).length : Nat) : Int), putS (l.getD i stk0) ++ (l.drop (i + 1)).flatMap one, 0) := by
  rw [drop_at stk0 hi, List.flatMap_cons, rdSmall_one ((leafOk h).all _ (getD_mem stk0 hi))]
structure RoundL (b : List Int) (N : Int) (i : Nat) (k : Int) (R : List Int) (E : Int) (acc : List Stk) : Prop where
  go : ∀ l, checkL l = 0 → layF l = b → i < l.length → k = ((putS (l.getD i stk0)).length : Nat) ∧ R = putS (l.getD i stk0) ++ (l.drop (i + 1)).flatMap one ∧ E = 0
  num : ∀ l, checkL l = 0 → layF l = b → N = l.length ∧ i ≤ l.length ∧ acc = l.take i
theorem RoundL.left {b R : List Int} {N k E : Int} {i : Nat} {acc : List Stk} (h : RoundL b N i k R E acc) (hi : (i : Int) < N) (hk : (R.length : Int) < k) : getL b = ([], 4) := getL_not fun l hl hb => by
  have := h.num l hl hb
  obtain ⟨h1, h2, -⟩ := h.go l hl hb (by omega)
  rw [h1, h2, List.length_append] at hk; omega
theorem RoundL.got {b R : List Int} {N k E : Int} {i : Nat} {acc : List Stk} (h : RoundL b N i k R E acc) (hi : (i : Int) < N) (hk : ¬ (getS (R.take k.toNat)).2 = 0) : getL b = ([], 4) := getL_not fun l hl hb => by
  have := h.num l hl hb
  obtain ⟨h1, h2, -⟩ := h.go l hl hb (by omega)
  rw [h1, h2, Int.toNat_natCast, List.take_left' rfl, getS_put ((leafOk hl).all _ (getD_mem stk0 (by omega))) rfl] at hk
  exact hk rfl
theorem RoundL.next {b R : List Int} {N k E : Int} {i : Nat} {acc : List Stk} (h : RoundL b N i k R E acc) (hi : (i : Int) < N) : ∀ l, checkL l = 0 → layF l = b → N = l.length ∧ i + 1 ≤ l.length ∧ R.drop k.toNat = (l.drop (i + 1)).flatMap one ∧ E = 0 ∧ acc ++ [(getS (R.take k.toNat)).1] = l.take (i + 1) := fun l hl hb => by
  have h0 := h.num l hl hb
  obtain ⟨h1, h2, h3⟩ := h.go l hl hb (by omega)
  have hil : i < l.length := by omega
  rw [h1, h2, Int.toNat_natCast, List.take_left' rfl, List.drop_left' rfl, getS_put ((leafOk hl).all _ (getD_mem stk0 hil)) rfl, take_at stk0 hil, h0.2.2]
  exact ⟨h0.1, hil, rfl, h3, rfl⟩
theorem end_l {b : List Int} {N : Int} {i : Nat} {rb : List Int} {acc : List Stk} (h : ∀ l, checkL l = 0 → layF l = b → N = l.length ∧ i ≤ l.length ∧ rb = (l.drop i).flatMap one ∧ acc = l.take i) (hi : N ≤ (i : Int) ∨ rb.length = 0) : ∀ l, checkL l = 0 → layF l = b → acc = l := fun l hl hb => by
  obtain ⟨h1, h2, h3, h4⟩ := h l hl hb
  rcases hi with hi | hi
  · rw [h4, List.take_of_length_le (by omega)]
  · have := len_sum (l.drop i)
    rw [sumN, ← h3, List.length_drop] at this
    rw [h4, List.take_of_length_le (by omega)]
theorem fin_bad {b : List Int} {acc : List Stk} (h : ∀ l, checkL l = 0 → layF l = b → acc = l) (hp : ¬ (putL acc).2 = 0) : getL b = ([], 4) := getL_not fun l hl hb => by
  have := h l hl hb
  subst this
  exact putL_not hp hl
theorem fin_not {b : List Int} {acc : List Stk} (h : ∀ l, checkL l = 0 → layF l = b → acc = l) (hp : (putL acc).2 = 0) (hn : ¬ strOfBytes (putL acc).1 = strOfBytes b) : getL b = ([], 4) := getL_not fun l hl hb => by
  have := h l hl hb
  subst this
  rw [(putL_zero hp).2, hb] at hn
  exact hn rfl
theorem fin_yes {b : List Int} {acc : List Stk} (hB : isB b) (hp : (putL acc).2 = 0) (hn : strOfBytes (putL acc).1 = strOfBytes b) : getL b = (acc, 0) := by
  obtain ⟨h1, h2⟩ := putL_zero hp
  rw [h2] at hn
  exact getL_put h1 (str_inj (isB_layF _) hB hn)
theorem fLGet : FnOk Tryz.prog 33 := ⟨_, Tryz.func33, by decide, rfl⟩
theorem pLGet : PSound Tryz.prog 33 sLGet := by
  refine psound (T := tab) (S := (spOf [(95, sNew.spec (lsOf [])), (96, sSmall.spec), (97, sLeft.spec), (98, sSGet.spec (lsOf [])), (31, sLPut.spec (lsOf [])), (99, sBEqual.spec (lsOf []))])) (keep := k33) (by kernel_rfl) tabOk (spCons (.inl ⟨nOk lsNil pNew, fNew⟩) (spCons (.inl ⟨pSmall, fSmall⟩) (spCons (.inl ⟨pLeft, fLeft⟩) (spCons (pOk pSGet fSGet (by decide) lsNil) (spCons (pOk pLPut fLPut (by decide) lsNil) (spCons (pOk pBEqual fBEqual (by decide) lsNil) spNil)))))) (by kernel_rfl) Tryz.func33 (by kernel_rfl) (by decide) fun xs hg hp => ?_
  obtain ⟨b, ⟨⟩⟩ := xs
  obtain ⟨⟨-, hx⟩, -⟩ := hg
  change List Int at b
  change b.length ≤ 50000 at hp
  have hB : isB b := isB_good hx
  change ∀ x ∈ b, Eng.Good (.int .u8) x at hx
  have hb1 := rdSmall_suf b 0
  have hl1 := suf_len hb1
  show vfun tab _ k33 Tryz.f33 [.sl (.int .u8) b] [] _
  refine Ev.out ?_
  repeat' (first | ((with_reducible refine Ev.mk ?_); conv => whnf) | (with_reducible refine And.intro ?_ ?_) | (intro h))
  all_goals (try simp only [decide_eq_true_eq, decide_eq_false_iff_not, beq_iff_eq, bne_iff_ne, beq_eq_false_iff_ne, bne_eq_false_iff_eq, Int.toNat_natCast, ge_iff_le, gt_iff_lt, Bool.not_eq_true', Bool.not_eq_false', Int.not_lt, Int.not_le, ne_eq] at *)
  all_goals (try dsimp only [Ty.den, Ty.dflt, StT, sNew, sSmall] at *)
  all_goals (try simp only [eq4, ne4, eq3, ne3, eq2, ne2, Prod.eta, List.length_cons, List.length_nil, List.length_append, Nat.zero_add] at *)
  all_goals (try simp (disch := omega) only [wrap64] at *)
  all_goals try first | exact leafDraw (by kernel_rfl) | exact Leaf.mk trivial | (refine Leaf.mk ?_; omega) | (refine Leaf.mk ?_; unfold maxLen; omega)
  generalize hN : (rdSmall b 0).1 = N
  generalize hb0 : (rdSmall b 0).2.1 = b0 at *
  generalize he0 : (rdSmall b 0).2.2 = e0
  have h0 : ∀ l, checkL l = 0 → layF l = b → N = l.length ∧ b0 = l.flatMap one ∧ e0 = 0 := fun l hl hb => by
    have h1 := rd_lay hl
    rw [hb] at h1
    rw [h1] at hN hb0 he0
    exact ⟨hN.symm, hb0.symm, he0.symm⟩
  refine LoopVC.weak [(.cell 2 0, .nil 38 StT)] (fun a : Nat × List Int × Int × List Stk => [(7, .i .i64 a.1)]) (fun a => [(1, .box [.sl (.int .u8) a.2.1, .i .i64 a.2.2.1]), (3, .arr 38 StT a.2.2.2)]) (fun a => a.2.1 <:+ b ∧ a.1 + a.2.1.length ≤ b.length ∧ a.2.2.2.length = a.1 ∧ ∀ l, checkL l = 0 → layF l = b → N = l.length ∧ a.1 ≤ l.length ∧ a.2.1 = (l.drop a.1).flatMap one ∧ a.2.2.1 = 0 ∧ a.2.2.2 = l.take a.1) (fun a => a.2.1.length) (0, b0, e0, []) (Ev.mk ?_)
  (conv => whnf)
  refine ⟨Leaf.mk ?_, Leaf.mk ?_, ?_⟩
  · rfl
  · refine ⟨hb1, by dsimp only; omega, rfl, fun l hl hb => ?_⟩
    obtain ⟨h1, h2, h3⟩ := h0 l hl hb
    exact ⟨h1, Nat.zero_le _, h2, h3, rfl⟩
  intro ⟨i, rb, re, acc⟩ ⟨hrb, hil, hacc, hv⟩
  dsimp only at hrb hil hacc hv ⊢
  have hrl := suf_len hrb
  have hs1 := rdSmall_suf rb re
  have hs1l := suf_len hs1
  repeat' (first | ((with_reducible refine Ev.mk ?_); conv => whnf) | (with_reducible refine And.intro ?_ ?_) | (intro h))
  all_goals (try simp only [decide_eq_true_eq, decide_eq_false_iff_not, beq_iff_eq, bne_iff_ne, beq_eq_false_iff_ne, bne_eq_false_iff_eq, Int.toNat_natCast, ge_iff_le, gt_iff_lt, Bool.not_eq_true', Bool.not_eq_false', Int.not_lt, Int.not_le, ne_eq] at *)
  all_goals (try dsimp only [Ty.den, Ty.dflt, StT, sNew, sSmall, sLeft] at *)
  all_goals (try simp only [eq4, ne4, eq3, ne3, eq2, ne2, Prod.eta, List.length_cons, List.length_nil, List.length_append, Nat.zero_add] at *)
  all_goals (try simp (disch := omega) only [wrap64] at *)
  all_goals try first | exact leafDraw (by kernel_rfl) | exact Leaf.mk trivial | (refine Leaf.mk ?_; omega) | (refine Leaf.mk ?_; unfold maxLen; omega)
  all_goals
    have hcut := suf_cut (hs1.trans hrb)
    have hk0 : 0 ≤ (rdSmall rb re).1 := rdSmall_pos (fun x h => hx x (hrb.subset h)) re
    have hRB : (rdSmall rb re).2.1 <:+ b := hs1.trans hrb
    try simp only [hcut] at *
    have hE : RoundL b N i (rdSmall rb re).1 (rdSmall rb re).2.1 (rdSmall rb re).2.2 acc := ⟨fun l hl hb hi => by
      obtain ⟨h1, h2, h3, h4, h5⟩ := hv l hl hb
      rw [h3, h4, round_l hl hi]; exact ⟨rfl, rfl, rfl⟩, fun l hl hb => by
      obtain ⟨h1, h2, h3, h4, h5⟩ := hv l hl hb
      exact ⟨h1, h2, h5⟩⟩
    have hend : N ≤ (i : Int) ∨ rb.length = 0 → ∀ l, checkL l = 0 → layF l = b → acc = l := end_l fun l hl hb => by
      obtain ⟨h1, h2, h3, h4, h5⟩ := hv l hl hb
      exact ⟨h1, h2, h3, h5⟩
    have hno : (i : Int) < N → (rdSmall rb re).2.1.length = rb.length → getL b = ([], 4) := fun hi hc => getL_not fun l hl hb => by
      obtain ⟨h1, h2, h3, h4, h5⟩ := hv l hl hb
      have h6 := (hE.go l hl hb (by omega)).2.1
      have h7 : rb = one (l.getD i stk0) ++ (l.drop (i + 1)).flatMap one := by rw [h3, drop_at stk0 (by omega), List.flatMap_cons]
      rw [h6, h7, one_okk ((leafOk hl).all _ (getD_mem stk0 (by omega)))] at hc
      have := (putSmall_len ((putS (l.getD i stk0)).length : Nat)).1
      simp only [List.length_append] at hc; omega
    generalize (rdSmall rb re).1 = k at *
    generalize (rdSmall rb re).2.1 = R at *
    generalize (rdSmall rb re).2.2 = E at *
  · exact Leaf.mk (retGl (u := ([], 4)) (v := getL b) (hno (by omega) (by omega)).symm)
  · exact Leaf.mk (retGl (u := ([], 4)) (v := getL b) (hE.left (by omega) (by omega)).symm)
  · exact Leaf.mk hk0
  · refine Leaf.mk (show List.length (α := Int) _ ≤ 100000 from ?_)
    rw [List.length_drop, List.length_take]; omega
  · exact Leaf.mk (retGl (u := ([], 4)) (v := getL b) (hE.got (by omega) (show ¬ (getS (R.take k.toNat)).2 = 0 from h)).symm)
  · exact Leaf.mk hk0
  · refine Leaf.mk ?_
    rw [List.length_drop, List.length_take]; omega
  · refine Leaf.mk (Exists.intro (i + 1, R.drop k.toNat, 0, acc ++ [(getS (R.take k.toNat)).1]) ⟨?_, ⟨(List.drop_suffix _ _).trans hRB, ?_, by dsimp only; rw [List.length_append]; simp; omega, fun l hl hb => ?_⟩, ?_⟩)
    · rw [List.take_length]; rfl
    · dsimp only; rw [List.length_drop]; omega
    · obtain ⟨h1, h2, h3, h4, h5⟩ := hE.next (by omega) l hl hb
      exact ⟨h1, h2, h3, rfl, h5⟩
    · dsimp only; rw [List.length_drop]; omega
  all_goals try exact Leaf.mk (show acc.length ≤ 100000 by omega)
  all_goals
    have hend := hend (by omega)
  all_goals first
    | exact Leaf.mk (retGl (u := ([], 4)) (v := getL b) (fin_bad hend (show ¬ (putL acc).2 = 0 from ‹_›)).symm)
    | exact Leaf.mk (retGl (u := ([], 4)) (v := getL b) (fin_not hend (show (putL acc).2 = 0 from ‹_›) (fun hc => beq_eq_false_iff_ne.1 (show (strOfBytes b == strOfBytes (putL acc).1) = false from ‹_›) hc.symm)).symm)
    | exact Leaf.mk (retGl (u := (acc, 0)) (v := getL b) (fin_yes hB (show (putL acc).2 = 0 from ‹_›) (beq_iff_eq.1 (show (strOfBytes b == strOfBytes (putL acc).1) = true from ‹_›)).symm).symm)
end Go.Proofs.YtkmfjlfejdoehaaGreat

set_option linter.unusedVariables false
set_option linter.unusedSimpArgs false
set_option maxRecDepth 8000
set_option maxHeartbeats 4000000
namespace Go.Proofs.YtkmfjlfejdoehaaGreat
open Go.Eng
theorem light_all {l : List Stk} {m : Int} (h : lightL l m = true) : ∀ s ∈ l, s.2.length ≤ 12 := fun s hs => by
  unfold lightL at h
  rw [Bool.and_eq_true, List.all_eq_true] at h
  exact (light_of (h.2 s hs)).2
def sOwn14 : PSpec := ⟨[.d SsT], [⟨true, [.d SsT]⟩], fun x => List.length x.1 ≤ 100000 ∧ ∀ s ∈ x.1, List.length s.2 ≤ 100000, fun x => ((x.1, ()), ())⟩
theorem fOwn14 : FnOk Tryz.prog 13 := ⟨_, Tryz.func13, by decide, rfl⟩
theorem pOwn14 : PSound Tryz.prog 13 sOwn14 := by
  refine psound (T := tab) (S := (spOf [])) (keep := k13) (by kernel_rfl) tabOk spNil (by kernel_rfl) Tryz.func13 (by kernel_rfl) (by decide) fun xs hg hp => ?_
  obtain ⟨l, ⟨⟩⟩ := xs
  change List Stk at l
  change l.length ≤ 100000 ∧ ∀ s ∈ l, List.length s.2 ≤ 100000 at hp
  obtain ⟨hl, hs⟩ := hp
  clear hg
  show vfun tab _ k13 Tryz.f13 [.sl StT l] [] _
  refine Ev.out ?_
  repeat' (first | ((with_reducible refine Ev.mk ?_); conv => whnf) | (with_reducible refine And.intro ?_ ?_) | (intro h))
  all_goals (try simp only [decide_eq_true_eq, decide_eq_false_iff_not, beq_iff_eq, bne_iff_ne, beq_eq_false_iff_ne, bne_eq_false_iff_eq, Int.toNat_natCast, ge_iff_le, gt_iff_lt, Bool.not_eq_true', Bool.not_eq_false', Int.not_lt, Int.not_le, ne_eq] at *)
  all_goals (try dsimp only [Ty.den, Ty.dflt, StT] at *)
  all_goals (try simp only [eq4, ne4, eq3, ne3, eq2, ne2, Prod.eta, List.length_cons, List.length_nil, List.length_append, Nat.zero_add] at *)
  all_goals (try simp (disch := omega) only [wrap64] at *)
  all_goals try first | exact leafDraw (by kernel_rfl) | exact Leaf.mk trivial | (refine Leaf.mk ?_; omega) | (refine Leaf.mk ?_; unfold maxLen; omega)
  refine LoopVC.weak [(.cell 1 0, .nil 38 StT)] (fun i : Nat => [(4, .i .i64 i)]) (fun i => [(2, .arr 38 StT (l.take i))]) (fun i => i ≤ l.length) (fun i => l.length - i) 0 (Ev.mk ?_)
  (conv => whnf)
  refine ⟨Leaf.mk ?_, Leaf.mk ?_, ?_⟩
  · rfl
  · omega
  intro i hi
  have hsi : i < l.length → (l.getD i stk0).2.length ≤ 100000 := fun h => hs _ (getD_mem stk0 h)
  repeat' (first | ((with_reducible refine Ev.mk ?_); conv => whnf) | (with_reducible refine And.intro ?_ ?_) | (intro h))
  all_goals (try simp only [decide_eq_true_eq, decide_eq_false_iff_not, beq_iff_eq, bne_iff_ne, beq_eq_false_iff_ne, bne_eq_false_iff_eq, Int.toNat_natCast, ge_iff_le, gt_iff_lt, Bool.not_eq_true', Bool.not_eq_false', Int.not_lt, Int.not_le, ne_eq] at *)
  all_goals (try dsimp only [Ty.den, Ty.dflt, StT] at *)
  all_goals (try simp only [eq4, ne4, eq3, ne3, eq2, ne2, Prod.eta, List.length_cons, List.length_nil, List.length_append, Nat.zero_add] at *)
  all_goals (try simp (disch := omega) only [wrap64] at *)
  all_goals try first | exact leafDraw (by kernel_rfl) | exact Leaf.mk trivial | (refine Leaf.mk ?_; omega) | (refine Leaf.mk ?_; unfold maxLen; omega)
  all_goals try
    have htl : (l.take i).length = i := by rw [List.length_take]; omega
  all_goals first
    | (refine Leaf.mk ?_; have := hsi (by omega); dsimp only [stk0] at this; omega)
    | (refine Leaf.mk ?_; have := hsi (by omega); dsimp only [stk0] at this; unfold maxLen; omega)
    | (refine Leaf.mk ?_; omega)
    | (refine Leaf.mk ?_; unfold maxLen; omega)
    | (refine Leaf.mk (Exists.intro (i + 1) ⟨?_, by omega, by omega⟩)
       rw [take_at stk0 (by omega)]; rfl)
    | (refine Leaf.mk (ret1 (show l.take i = l from ?_))
       exact List.take_of_length_le (by omega))
def sWrite14 : PSpec := ⟨[.d .str], [⟨true, [.d MsgT]⟩], fun _ => True, fun x => (((0, x.1, 1, 0, false, [118]), ()), ())⟩
theorem fWrite14 : FnOk Tryz.prog 64 := ⟨_, Tryz.func64, by decide, rfl⟩
theorem pWrite14 : PSound Tryz.prog 64 sWrite14 := by
  refine psound (T := tab) (S := (spOf [])) (keep := k64) (by kernel_rfl) tabOk spNil (by kernel_rfl) Tryz.func64 (by kernel_rfl) (by decide) fun xs hg hp => ?_
  obtain ⟨k, ⟨⟩⟩ := xs
  change List UInt8 at k
  show vfun tab _ k64 Tryz.f64 [.s k] [] _
  refine Ev.out ?_
  repeat' (first | ((with_reducible refine Ev.mk ?_); conv => whnf) | (with_reducible refine And.intro ?_ ?_) | (intro h))
  all_goals exact Leaf.mk rfl
def sAwake14 : PSpec := ⟨[], [⟨false, [.d .bool]⟩], fun _ => True, fun _ => ((true, ()), ())⟩
theorem fAwake14 : FnOk Tryz.prog 12 := ⟨_, Tryz.func12, by decide, rfl⟩
theorem pAwake14 : PSound Tryz.prog 12 sAwake14 := by
  refine psound (T := tab) (S := (spOf [(64, sWrite14.spec (lsOf [])), (15, sLApply.spec (lsOf [])), (29, sLSplit.spec (lsOf [])), (31, sLPut.spec (lsOf [])), (33, sLGet.spec (lsOf [])), (19, sLFind.spec (lsOf [])), (17, sLOver.spec (lsOf [])), (26, sLSize.spec (lsOf [])), (28, sLSame.spec (lsOf [])), (22, sLRange.spec (lsOf [])), (35, sLJoin.spec (lsOf [])), (24, sLCheck.spec (lsOf []))])) (keep := k12) (by kernel_rfl) tabOk (spCons (pOk pWrite14 fWrite14 (by decide) lsNil) (spCons (pOk pLApply fLApply (by decide) lsNil) (spCons (pOk pLSplit fLSplit (by decide) lsNil) (spCons (pOk pLPut fLPut (by decide) lsNil) (spCons (pOk pLGet fLGet (by decide) lsNil) (spCons (pOk pLFind fLFind (by decide) lsNil) (spCons (pOk pLOver fLOver (by decide) lsNil) (spCons (pOk pLSize fLSize (by decide) lsNil) (spCons (pOk pLSame fLSame (by decide) lsNil) (spCons (pOk pLRange fLRange (by decide) lsNil) (spCons (pOk pLJoin fLJoin (by decide) lsNil) (spCons (pOk pLCheck fLCheck (by decide) lsNil) spNil)))))))))))) (by kernel_rfl) Tryz.func12 (by kernel_rfl) (by decide) fun xs hg hp => ?_
  obtain ⟨⟩ := xs
  show vfun tab _ k12 Tryz.f12 [] [] _
  refine Ev.out ?_
  repeat' (first | ((with_reducible refine Ev.mk ?_); conv => whnf) | (with_reducible refine And.intro ?_ ?_) | (intro h; first | exact absurd h (by decide +kernel) | skip))
  all_goals first
    | exact Leaf.mk trivial
    | exact leafDraw (by kernel_rfl)
    | (refine Leaf.mk ?_; change _ ∧ _; decide +kernel)
    | (refine Leaf.mk ?_; change (_ : Nat) ≤ _; decide +kernel)
    | (refine Leaf.mk ?_; decide +kernel)
    | (refine Leaf.mk ?_; change _ ∧ _ ∧ _ ∧ List.Pairwise _ _; decide +kernel)
    | exact Leaf.mk rfl
end Go.Proofs.YtkmfjlfejdoehaaGreat

set_option linter.unusedVariables false
set_option linter.unusedSimpArgs false
set_option maxRecDepth 8000
set_option maxHeartbeats 4000000
namespace Go.Proofs.YtkmfjlfejdoehaaGreat
open Go.Eng
structure MsgOk (m : Msg) : Prop where
  kind : m.1 ≤ 3
  form : mForm m
  txn : 0 ≤ m.2.2.1 ∧ m.2.2.1 ≤ 1099511627776
  ts : 0 ≤ m.2.2.2.1 ∧ m.2.2.2.1 ≤ 1099511627776
  key : m.2.1.length ≤ 16
  val : m.2.2.2.2.2.length ≤ 24
theorem mcheck_ok {m : Msg} (h : mcheck m = 0) : MsgOk m := by
  unfold mcheck at h
  split at h
  · exact absurd h (by decide)
  split at h
  · exact absurd h (by decide)
  split at h
  · exact absurd h (by decide)
  split at h
  · exact absurd h (by decide)
  rename_i h1 h2 h3 h4
  have h5 : inB m.2.2.1 = true ∧ inB m.2.2.2.1 = true := Classical.byContradiction fun hc => h3 (.inl hc)
  exact ⟨by omega, Classical.byContradiction h2, of_decide_eq_true h5.1, of_decide_eq_true h5.2, by omega, by omega⟩
end Go.Proofs.YtkmfjlfejdoehaaGreat

set_option linter.unusedVariables false
set_option linter.unusedSimpArgs false
set_option maxRecDepth 8000
set_option maxHeartbeats 4000000
namespace Go.Proofs.YtkmfjlfejdoehaaGreat
open Go.Eng
theorem apply_key (s : Stk) (m : Msg) : (applyM s m).1 = s.1 := by
  unfold applyM
  split
  · split
    · unfold commit; split <;> rfl
    · split
      · rfl
      · split
        · rfl
        · unfold write; repeat' split
          all_goals rfl
  · rfl
theorem apply_ok {s : Stk} {m : Msg} (h0 : 0 ≤ m.1) (h : check s = 0) : check (applyM s m) = 0 := by
  unfold applyM
  split
  · rename_i hc
    have ok := mcheck_ok hc.1
    split
    · exact commit_ok h ok.ts.2
    · split
      · exact abort_ok h
      · split
        · exact prune_ok h
        · have hk := ok.kind
          have hf := ok.form
          refine write_ok h ⟨ok.val, fun hg => ?_, ok.txn, by dsimp only; omega⟩
          rcases hf.2.2.2 with h1 | h1
          · exact absurd (show m.2.2.2.2.1 = true from hg) (by rw [h1]; simp)
          · exact List.eq_nil_of_length_eq_zero h1
  · exact h
end Go.Proofs.YtkmfjlfejdoehaaGreat

set_option linter.unusedVariables false
set_option linter.unusedSimpArgs false
set_option maxRecDepth 8000
set_option maxHeartbeats 4000000
namespace Go.Proofs.YtkmfjlfejdoehaaGreat
open Go.Eng
theorem small8 {n : Nat} (h : n ≤ 8) : (putSmall n).length ≤ 2 := by
  have : ∀ k, k < 9 → (putSmall (k : Nat)).length ≤ 2 := by decide +kernel
  exact this n (by omega)
theorem small595 {n : Nat} (h : n ≤ 595) : (putSmall n).length ≤ 3 := by
  have : ∀ k, k < 596 → (putSmall (k : Nat)).length ≤ 3 := by decide +kernel
  exact this n (by omega)
def wS (s : Stk) : Nat := (putText s.1).length + (s.2.flatMap putV).length
theorem putR_ok {s : Stk} (h : check s = 0) : (putR11 s).1 = putS s := by unfold putR11; rw [if_pos h]
theorem one_ok {s : Stk} (h : check s = 0) : one s = putSmall ((putS s).length : Nat) ++ putS s := by rw [one, putR_ok h]
theorem one_bd {s : Stk} (h : check s = 0) : wS s + 2 ≤ (one s).length ∧ (one s).length ≤ wS s + 5 := by
  have h1 := putS_len h
  have h2 := small595 h1
  have h3 := (putSmall_len ((putS s).length : Nat)).1
  have h4 := small8 (check_ok.1 h).len
  have h5 := (putSmall_len (s.2.length : Nat)).1
  have h6 : (putS s).length = wS s + (putSmall (s.2.length : Nat)).length := by
    simp only [putS, wS, List.length_append]; omega
  rw [one_ok h, List.length_append]
  omega
theorem flat_sub {f : Ver → List Int} {a b : List Ver} (h : a.Sublist b) : (a.flatMap f).length ≤ (b.flatMap f).length := by
  induction h with
  | slnil => exact Nat.le_refl _
  | cons x _ ih => simp only [List.flatMap_cons, List.length_append]; omega
  | cons_cons x _ ih => simp only [List.flatMap_cons, List.length_append]; omega
theorem putV_ts (v : Ver) (ts : Int) : (putV (v.1, ts, v.2.2)).length ≤ (putV v).length + 8 := by
  have h1 := putSmall_len ts
  have h2 := putSmall_len v.2.1
  simp only [putV, List.length_append, List.length_cons]; omega
theorem w_commit {s : Stk} {me ts : Int} : wS (commit s me ts) ≤ wS s + 8 := by
  by_cases h1 : 1 ≤ ts
  rotate_left
  · unfold commit; rw [if_pos (.inr (by omega))]; omega
  rcases place_split me s.2 with ⟨_, h2⟩ | ⟨A, u, B, e, _, h2, h3⟩
  · rw [commit_no h2]; omega
  · rw [commit_at e h2 h3 h1]
    have h4 := putV_ts u ts
    generalize slotN ts (A ++ B) (A ++ B).length = q
    have h5 : ((A ++ B).flatMap putV).length = (((A ++ B).take q).flatMap putV).length + (((A ++ B).drop q).flatMap putV).length := by
      rw [← List.length_append, ← List.flatMap_append, List.take_append_drop]
    rw [List.flatMap_append, List.length_append] at h5
    simp only [wS, e, List.flatMap_append, List.flatMap_cons, List.length_append]
    omega
theorem w_sub {s : Stk} {l : List Ver} (h : l.Sublist s.2) : wS (s.1, l) ≤ wS s := by
  have := flat_sub (f := putV) h
  simp only [wS]; omega
theorem w_write {s : Stk} {v : Ver} (hv : VerOk (v.1, 0, v.2.2)) : wS (write s v) ≤ wS s + 69 := by
  have h1 := putV_len hv
  rcases write_at (s := s) (v := v) with ⟨A, u, B, e, hu, hA, hw⟩ | ⟨hn, ⟨hl, hw⟩ | ⟨hl, hw⟩⟩
  · rw [hw]
    simp only [wS, e, List.flatMap_append, List.flatMap_cons, List.length_append]; omega
  · rw [hw]
    simp only [wS, List.flatMap_append, List.flatMap_cons, List.flatMap_nil, List.length_append, List.length_nil]; omega
  · rw [hw]; omega
def growM (m : Msg) (s : Stk) : Nat := if m.1 = 0 then (if s.1 = m.2.1 then 72 else 0) else 11
theorem msg_ver {m : Msg} (h : mcheck m = 0) (h0 : m.1 = 0) : VerOk (m.2.2.1, 0, m.2.2.2.2) := by
  have ok := mcheck_ok h
  have hf := ok.form
  refine ⟨ok.val, fun hg => ?_, ok.txn, by dsimp only; omega⟩
  rcases hf.2.2.2 with h1 | h1
  · exact absurd (show m.2.2.2.2.1 = true from hg) (by rw [h1]; simp)
  · exact List.eq_nil_of_length_eq_zero h1
theorem one_grow {s : Stk} {m : Msg} (h0 : 0 ≤ m.1) (h : check s = 0) : (one (applyM s m)).length ≤ (one s).length + growM m s := by
  have ha := apply_ok h0 h
  have b1 := (one_bd h).1
  have b2 := (one_bd ha).2
  have key : applyM s m = s ∨ (mcheck m = 0 ∧ about s.1 m = true) := by
    unfold applyM
    split
    · rename_i hc; exact .inr hc
    · exact .inl rfl
  rcases key with hk | hk
  · rw [hk]; omega
  have e : applyM s m = (if m.1 = 1 then commit s m.2.2.1 m.2.2.2.1 else if m.1 = 2 then abort s m.2.2.1 else if m.1 = 3 then prune s m.2.2.2.1 else write s (m.2.2.1, 0, m.2.2.2.2)) := by
    unfold applyM; rw [if_pos hk]
  by_cases hz : m.1 = 0
  · have hkey : s.1 = m.2.1 := by
      have := hk.2
      unfold about wide at this
      simp [hz] at this
      exact this.symm
    have hw := w_write (s := s) (msg_ver hk.1 hz)
    rw [e, if_neg (by omega), if_neg (by omega), if_neg (by omega)] at b2
    rw [growM, if_pos hz, if_pos hkey, e, if_neg (by omega), if_neg (by omega), if_neg (by omega)]
    have hw' : wS (write s (m.2.2.1, 0, m.2.2.2.2)) ≤ wS s + 69 := hw
    omega
  · rw [growM, if_neg hz]
    have : wS (applyM s m) ≤ wS s + 8 := by
      rw [e]
      split
      · exact w_commit
      · split
        · have := w_sub (s := s) (l := s.2.filter (fun v => !roomP m.2.2.1 v)) List.filter_sublist
          have : wS (abort s m.2.2.1) ≤ wS s := this
          omega
        · split
          · have h9 := keepN_sub m.2.2.2.1 (lastN m.2.2.2.1 s.2 s.2.length) s.2 s.2.length (Nat.le_refl _)
            rw [List.take_length] at h9
            have : wS (prune s m.2.2.2.1) ≤ wS s := w_sub h9
            omega
          · have := (mcheck_ok hk.1).kind
            omega
    omega
theorem sum_map {f : Stk → Stk} {d : Stk → Nat} : ∀ (l : List Stk), (∀ s ∈ l, (one (f s)).length ≤ (one s).length + d s) → sumN (l.map f) ≤ sumN l + (l.map d).sum
  | [], _ => Nat.le_refl _
  | s :: r, h => by
    have h1 := h s List.mem_cons_self
    have h2 := sum_map r fun x hx => h x (List.mem_cons_of_mem _ hx)
    rw [List.map_cons, List.map_cons, List.sum_cons, sumN_cons, sumN_cons]; omega
theorem sum_filter (p : Stk → Bool) : ∀ (l : List Stk), sumN (l.filter p) ≤ sumN l
  | [] => Nat.le_refl _
  | s :: r => by
    have := sum_filter p r
    rw [List.filter_cons, sumN_cons]
    split
    · rw [sumN_cons]; omega
    · omega
theorem grow_sum {m : Msg} {l : List Stk} (h : RiseK l) : (l.map (growM m)).sum ≤ if m.1 = 0 then 72 else 11 * l.length := by
  by_cases hz : m.1 = 0
  · rw [if_pos hz]
    induction l with
    | nil => exact Nat.zero_le _
    | cons s r ih =>
      rw [RiseK, List.pairwise_cons] at h
      rw [List.map_cons, List.sum_cons]
      by_cases hk : s.1 = m.2.1
      · have hzero : (r.map (growM m)).sum = 0 := by
          have : ∀ x ∈ r, growM m x = 0 := fun x hx => by
            have := h.1 x hx
            rw [growM, if_pos hz, if_neg]
            intro hc
            rw [hk, hc] at this
            exact slt_irrefl _ this
          clear ih h hk
          induction r with
          | nil => rfl
          | cons x r ih =>
            rw [List.map_cons, List.sum_cons, this x List.mem_cons_self, ih fun y hy => this y (List.mem_cons_of_mem _ hy)]
        rw [hzero, growM, if_pos hz, if_pos hk]; omega
      · have := ih h.2
        rw [growM, if_pos hz, if_neg hk]; omega
  · rw [if_neg hz]
    clear h
    induction l with
    | nil => exact Nat.zero_le _
    | cons s r ih => rw [List.map_cons, List.sum_cons, List.length_cons, growM, if_neg hz]; omega
theorem check_nil {k : List UInt8} (h : k.length ≤ 16) : check (k, []) = 0 := check_ok.2 ⟨h, Nat.zero_le _, fun v hv => by simp at hv, show ordered [] = true by decide⟩
theorem one_nil {k : List UInt8} (h : k.length ≤ 16) : (one (k, [])).length ≤ 39 := by
  have h1 := (one_bd (check_nil h)).2
  have h2 := putText_len k
  have h3 : wS (k, []) = (putText k).length := by simp [wS]
  omega
structure LOk (l : List Stk) : Prop where
  all : ∀ s ∈ l, check s = 0
  full : l.any emptyS = false
  rise : RiseK l
theorem lok_iff {l : List Stk} : mayL l = 0 ↔ LOk l := by
  rw [mayL_zero]
  exact ⟨fun h => ⟨h.1, h.2.1, h.2.2⟩, fun h => ⟨h.all, h.full, h.rise⟩⟩
theorem checkL_cases {l : List Stk} : checkL l = 0 ↔ mayL l = 0 ∧ sizeF l ≤ 1016 := by
  unfold checkL
  split
  · rename_i h
    split
    · rename_i h2; exact ⟨fun hc => by omega, fun hc => by omega⟩
    · rename_i h2; exact ⟨fun _ => ⟨h, by omega⟩, fun _ => rfl⟩
  · rename_i h; exact ⟨fun hc => absurd hc h, fun hc => absurd hc.1 h⟩
theorem base_ok {l : List Stk} {m : Msg} (h : LOk l) : (∀ s ∈ baseL l m, check s = 0) ∧ RiseK (baseL l m) ∧ (baseL l m).length ≤ l.length + 1 ∧ sumN (baseL l m) ≤ sumN l + (if m.1 = 0 then 39 else 0) := by
  rw [baseL]
  split
  · rename_i hc
    have hk := (mcheck_ok hc.2).key
    obtain ⟨h1, h2, h3⟩ := withF_rise (k := m.2.1) h.rise
    refine ⟨fun s hs => ?_, h1, h2, ?_⟩
    · rcases h3 s hs with h4 | rfl
      · exact h.all s h4
      · exact check_nil hk
    · rw [if_pos hc.1, withF]
      have h5 := one_nil hk
      split
      · have := sumN_cut l (lastL m.2.1 l l.length)
        rw [sumN_app, sumN_cons]; omega
      · omega
  · exact ⟨h.all, h.rise, by omega, by omega⟩
theorem applyL_ok {l : List Stk} {m : Msg} (h0 : 0 ≤ m.1) (h : LOk l) : LOk (applyL l m) ∧ (applyL l m).length ≤ l.length + 1 ∧ sumN (applyL l m) ≤ sumN l + (111 + 11 * (l.length + 1)) := by
  obtain ⟨h1, h2, h3, h4⟩ := base_ok (m := m) h
  refine ⟨⟨fun s hs => ?_, ?_, ?_⟩, ?_, ?_⟩
  · obtain ⟨hs1, -⟩ := List.mem_filter.1 hs
    obtain ⟨x, hx, rfl⟩ := List.mem_map.1 hs1
    exact apply_ok h0 (h1 x hx)
  · rw [List.any_eq_false]
    intro s hs hc
    have h5 := (List.mem_filter.1 hs).2
    have h6 : s.2.length = 0 := by
      have := beq_iff_eq.1 hc; omega
    have h7 := of_decide_eq_true h5
    omega
  · rw [RiseK, applyL]
    refine List.Pairwise.filter _ (List.pairwise_map.2 (h2.imp fun {a b} hab => ?_))
    rw [apply_key, apply_key]; exact hab
  · rw [applyL]
    refine Nat.le_trans (List.length_filter_le _ _) ?_
    rw [List.length_map]; exact h3
  · rw [applyL]
    have h5 := sum_filter fullP ((baseL l m).map fun s => applyM s m)
    have h6 := sum_map (f := fun s => applyM s m) (d := growM m) (baseL l m) fun s hs => one_grow h0 (h1 s hs)
    have h7 := grow_sum (m := m) h2
    split at h4
    · rename_i hz; rw [if_pos hz] at h7; omega
    · rename_i hz; rw [if_neg hz] at h7; omega
theorem size_sum (l : List Stk) : sumN l + 1 ≤ sizeF l ∧ sizeF l ≤ sumN l + 9 := by
  have := putSmall_len (l.length : Nat)
  rw [sizeF, layF, List.length_append]
  show sumN l + 1 ≤ _ + sumN l ∧ _ + sumN l ≤ _
  omega
theorem cut_at {l : List Stk} (h : 1007 < sumN l) : ∃ k, 1 ≤ k ∧ k < l.length ∧ sumN (l.take k) ≤ 1007 ∧ 404 ≤ sumN (l.take k) := by
  have key : ∀ n, n ≤ l.length → 1007 < sumN (l.take n) → ∃ k, k < n ∧ sumN (l.take k) ≤ 1007 ∧ 1007 < sumN (l.take (k + 1)) := by
    intro n
    induction n with
    | zero => intro _ hc; rw [List.take_zero, sumN_nil] at hc; omega
    | succ n ih =>
      intro hn hc
      by_cases hk : 1007 < sumN (l.take n)
      · obtain ⟨k, h1, h2, h3⟩ := ih (by omega) hk
        exact ⟨k, by omega, h2, h3⟩
      · exact ⟨n, by omega, by omega, hc⟩
  obtain ⟨k, h1, h2, h3⟩ := key l.length (Nat.le_refl _) (by rw [List.take_length]; exact h)
  have h4 := one_len (l.getD k stk0)
  rw [sumN_at h1] at h3
  refine ⟨k, ?_, h1, h2, by omega⟩
  rcases Nat.eq_zero_or_pos k with h5 | h5
  · subst h5; rw [List.take_zero, sumN_nil] at h3; omega
  · exact h5
structure HalfOk (y : List Stk) (a b : List Stk) (k : List UInt8) : Prop where
  ca : checkL a = 0
  cb : checkL b = 0
  na : 0 < a.length
  nb : 0 < b.length
  all : a ++ b = y
  key : (b.getD 0 stk0).1 = k
  last : (a.getD (a.length - 1) stk0).1 < k
theorem split_two {y : List Stk} (h2 : 2 ≤ y.length) : 0 < (splitF y).1.length ∧ 0 < (splitF y).2.1.length ∧ (splitF y).1 ++ (splitF y).2.1 = y := by
  have hb := bestN_bd y y.length
  have hb2 := hb.2 h2
  rw [splitF, if_neg (by omega)]
  dsimp only
  refine ⟨by rw [List.length_take]; omega, by rw [List.length_drop]; omega, List.take_append_drop _ _⟩
theorem getD_takeS {l : List Stk} {i k : Nat} (h : i < k) : (l.take k).getD i stk0 = l.getD i stk0 := by
  rw [List.getD_eq_getElem?_getD, List.getD_eq_getElem?_getD, List.getElem?_take, if_pos h]
theorem getD_dropS {l : List Stk} {i k : Nat} : (l.drop k).getD i stk0 = l.getD (k + i) stk0 := by
  rw [List.getD_eq_getElem?_getD, List.getD_eq_getElem?_getD, List.getElem?_drop]
theorem halves {x : List Stk} {m : Msg} (h0 : 0 ≤ m.1) (hx : checkL x = 0) (hl : x.length ≤ 21) (hy : checkL (applyL x m) = 5) : HalfOk (applyL x m) (splitF (applyL x m)).1 (splitF (applyL x m)).2.1 (splitF (applyL x m)).2.2 := by
  obtain ⟨hm, hs⟩ := checkL_cases.1 hx
  have ok := lok_iff.1 hm
  obtain ⟨h1, h2, h3⟩ := applyL_ok h0 ok
  have hs1 := (size_sum x).1
  generalize applyL x m = y at *
  have hM := lok_iff.2 h1
  have hbig : 1016 < sizeF y := by
    rcases Nat.lt_or_ge 1016 (sizeF y) with h | h
    · exact h
    · rw [checkL_cases.2 ⟨hM, h⟩] at hy; exact absurd hy (by decide)
  have hs2 := (size_sum y).2
  obtain ⟨k, k1, k2, k3, k4⟩ := cut_at (l := y) (by omega)
  have hn2 : 2 ≤ y.length := by omega
  have hb := bestN_bd y y.length
  have hb2 := hb.2 hn2
  have hmin := bestN_min y y.length k k1 k2
  have hcut := sumN_cut y k
  have hgk : greatN y k ≤ 1007 := by rw [greatN]; split <;> omega
  obtain ⟨g1, g2, -⟩ := greatN_le y (bestN y y.length)
  have e : splitF y = (y.take (bestN y y.length), y.drop (bestN y y.length), (y.getD (bestN y y.length) stk0).1) := by rw [splitF, if_neg (by omega)]
  rw [e]
  generalize bestN y y.length = q at *
  have sa := (size_sum (y.take q)).2
  have sb := (size_sum (y.drop q)).2
  refine ⟨checkL_cases.2 ⟨mayL_sub hM (List.take_sublist _ _), by dsimp only; omega⟩, checkL_cases.2 ⟨mayL_sub hM (List.drop_sublist _ _), by dsimp only; omega⟩, by dsimp only; rw [List.length_take]; omega, by dsimp only; rw [List.length_drop]; omega, List.take_append_drop _ _, ?_, ?_⟩
  · dsimp only; rw [getD_dropS]; rfl
  · dsimp only
    rw [List.length_take, Nat.min_eq_left (by omega), getD_takeS (by omega)]
    exact riseK_at h1.rise (by omega) hb2
theorem apply_check {x : List Stk} {m : Msg} (h0 : 0 ≤ m.1) (hx : checkL x = 0) : checkL (applyL x m) = 0 ∨ checkL (applyL x m) = 5 := by
  have hM := lok_iff.2 (applyL_ok h0 (lok_iff.1 (checkL_cases.1 hx).1)).1
  rw [checkL, if_pos hM]
  split
  · exact .inr rfl
  · exact .inl rfl
end Go.Proofs.YtkmfjlfejdoehaaGreat

set_option linter.unusedVariables false
set_option linter.unusedSimpArgs false
set_option maxRecDepth 8000
set_option maxHeartbeats 4000000
namespace Go.Proofs.YtkmfjlfejdoehaaGreat
open Go.Eng
theorem ownP {l : List Stk} {m : Int} (hm : m ≤ 100) (h : lightL l m = true) : l.length ≤ 100000 ∧ ∀ s ∈ l, List.length s.2 ≤ 100000 := by
  have h1 := lightL_len h
  exact ⟨by omega, fun s hs => by have := light_all h s hs; omega⟩
theorem appP {l : List Stk} {m : Int} (hm : m ≤ 100) (h : lightL l m = true) : l.length ≤ 1000 ∧ ∀ s ∈ l, List.length s.2 ≤ 1000 := by
  have h1 := lightL_len h
  exact ⟨by omega, fun s hs => by have := light_all h s hs; omega⟩
theorem lenP {l : List Stk} {m : Int} (hm : m ≤ 100) (h : lightL l m = true) : l.length ≤ 100000 := (ownP hm h).1
theorem lightMm_len {l : List Msg} {k : Int} (h : lightM l k = true) : (l.length : Int) ≤ k := by
  unfold lightM at h
  rw [Bool.and_eq_true] at h
  exact of_decide_eq_true h.1
end Go.Proofs.YtkmfjlfejdoehaaGreat

set_option linter.unusedVariables false
set_option linter.unusedSimpArgs false
set_option maxRecDepth 8000
set_option maxHeartbeats 4000000
namespace Go.Proofs.YtkmfjlfejdoehaaGreat
open Go.Eng
def sLeafStays : PSpec := lawSpec [SsT, MsT]
theorem pLeafStays : PSound Tryz.prog 6 sLeafStays := by
  refine psound (T := tab) (S := (spOf [(10, sLight14.spec (lsOf [])), (11, sLightM.spec (lsOf [])), (12, sAwake14.spec (lsOf [])), (13, sOwn14.spec (lsOf [])), (24, sLCheck.spec (lsOf [])), (15, sLApply.spec (lsOf [])), (29, sLSplit.spec (lsOf [])), (35, sLJoin.spec (lsOf [])), (28, sLSame.spec (lsOf [])), (31, sLPut.spec (lsOf [])), (33, sLGet.spec (lsOf [])), (26, sLSize.spec (lsOf []))])) (keep := k6) (by kernel_rfl) tabOk (spCons (pOk pLight14 fLight14 (by decide) lsNil) (spCons (pOk pLightM fLightM (by decide) lsNil) (spCons (pOk pAwake14 fAwake14 (by decide) lsNil) (spCons (pOk pOwn14 fOwn14 (by decide) lsNil) (spCons (pOk pLCheck fLCheck (by decide) lsNil) (spCons (pOk pLApply fLApply (by decide) lsNil) (spCons (pOk pLSplit fLSplit (by decide) lsNil) (spCons (pOk pLJoin fLJoin (by decide) lsNil) (spCons (pOk pLSame fLSame (by decide) lsNil) (spCons (pOk pLPut fLPut (by decide) lsNil) (spCons (pOk pLGet fLGet (by decide) lsNil) (spCons (pOk pLSize fLSize (by decide) lsNil) spNil)))))))))))) (by kernel_rfl) Tryz.func6 (by kernel_rfl) (by decide) fun xs hg hp => ?_
  obtain ⟨l, m, ⟨⟩⟩ := xs
  obtain ⟨-, ⟨-, hmx⟩, -⟩ := hg
  change List Stk at l
  change List Msg at m
  clear hp
  show vfun tab _ k6 Tryz.f6 [.sl StT l, .sl MsgT m] [] _
  refine Ev.out ?_
  repeat' (first | ((with_reducible refine Ev.mk ?_); conv => whnf) | (with_reducible refine And.intro ?_ ?_) | (intro h))
  all_goals (try simp only [decide_eq_true_eq, decide_eq_false_iff_not, beq_iff_eq, bne_iff_ne, beq_eq_false_iff_ne, bne_eq_false_iff_eq, Int.toNat_natCast, ge_iff_le, gt_iff_lt, Bool.not_eq_true', Bool.not_eq_false', Int.not_lt, Int.not_le, ne_eq] at *)
  all_goals (try dsimp only [Ty.den, Ty.dflt, StT, SsT, sLight14] at *)
  all_goals (try simp only [eq4, ne4, eq3, ne3, eq2, ne2, Prod.eta, List.length_cons, List.length_nil, List.length_append, Nat.zero_add] at *)
  all_goals (try simp (disch := omega) only [wrap64] at *)
  all_goals try first | exact leafDraw (by kernel_rfl) | exact Leaf.mk trivial | (refine Leaf.mk ?_; omega) | (refine Leaf.mk ?_; unfold maxLen; omega)
  all_goals first
    | exact Leaf.mk trivial
    | exact Leaf.mk rfl
    | exact absurd rfl h
    | exact Leaf.mk (show List.length l ≤ 100000 ∧ ∀ s ∈ l, List.length s.2 ≤ 100000 from ownP (by decide) ‹lightL l 12 = true›)
    | exact Leaf.mk (show List.length l ≤ 100000 from lenP (by decide) ‹lightL l 12 = true›)
    | exact Leaf.mk (show List.length l ≤ 1000 ∧ ∀ s ∈ l, List.length s.2 ≤ 1000 from appP (by decide) ‹lightL l 12 = true›)
    | exact sameL_self (show sameL l l = false from ‹_›)
    | skip
  have hml := lightMm_len (l := m) (k := 9) ‹(sLightM.fn (m, 9, ())).1.1 = true›
  have hll := lightL_len ‹lightL l 12 = true›
  have hch : checkL l = 0 := ‹(sLCheck.fn ((sOwn14.fn (l, ())).1.1, ())).1.1 = 0›
  refine LoopVC.on (fun a : Nat × List Stk => [(6, .i .i64 a.1)]) (fun a => [(0, .box [.sl StT a.2])]) (fun a => a.1 ≤ m.length ∧ checkL a.2 = 0 ∧ a.2.length ≤ 12 + a.1) (fun a => m.length - a.1) (0, l) rfl ⟨by omega, hch, by dsimp only; omega⟩ ?_
  intro ⟨i, x⟩ ⟨hi, hx, hxl⟩
  dsimp only at hi hx hxl ⊢
  have hmk : i < m.length → 0 ≤ (m.getD i (0, [], 0, 0, false, [])).1 := fun h => by
    have := hmx _ (getD_mem (0, [], 0, 0, false, []) h)
    exact (bdu8 this.1).1
  have hxs : ∀ s ∈ x, List.length s.2 ≤ 1000 := fun s hs => by
    have := (check_ok.1 ((lok_iff.1 (checkL_cases.1 hx).1).all s hs)).len
    omega
  repeat' (first | ((with_reducible refine Ev.mk ?_); conv => whnf) | (with_reducible refine And.intro ?_ ?_) | (intro h))
  all_goals (try simp only [decide_eq_true_eq, decide_eq_false_iff_not, beq_iff_eq, bne_iff_ne, beq_eq_false_iff_ne, bne_eq_false_iff_eq, Int.toNat_natCast, ge_iff_le, gt_iff_lt, Bool.not_eq_true', Bool.not_eq_false', Int.not_lt, Int.not_le, ne_eq] at *)
  all_goals (try dsimp only [Ty.den, Ty.dflt, StT, sLApply, sLSplit, sLCheck, sLJoin, sLSame, sLPut, sLGet, sLSize] at *)
  all_goals (try simp only [eq4, ne4, eq3, ne3, eq2, ne2, Prod.eta, List.length_cons, List.length_nil, List.length_append, Nat.zero_add] at *)
  all_goals (try simp (disch := omega) only [wrap64] at *)
  all_goals try first | exact leafDraw (by kernel_rfl) | exact Leaf.mk trivial | (refine Leaf.mk ?_; omega) | (refine Leaf.mk ?_; unfold maxLen; omega)
  all_goals try
    have hil : i < m.length := by omega
    have hm0 := hmk hil
    have hy := apply_check (m := m.getD i (0, [], 0, 0, false, [])) hm0 hx
    have hh := halves (m := m.getD i (0, [], 0, 0, false, [])) hm0 hx (by omega)
    have hyl := (applyL_ok hm0 (lok_iff.1 (checkL_cases.1 hx).1)).2.1
    have h2 := split_two (y := applyL x (m.getD i (0, [], 0, 0, false, [])))
    generalize applyL x (m.getD i (0, [], 0, 0, false, [])) = y at *
    have hsl : (splitF y).1.length ≤ y.length ∧ (splitF y).2.1.length ≤ y.length := by
      rw [splitF]; split
      · exact ⟨Nat.le_refl _, Nat.zero_le _⟩
      · simp only [List.length_take, List.length_drop]; omega
    generalize splitF y = S at *
  all_goals try (rw [wrap64 (n := (S.1.length : Int) - 1) (by omega)] at *)
  all_goals try (rw [show ((S.1.length : Int) - 1).toNat = S.1.length - 1 by omega] at *)
  all_goals try first
    | exact Leaf.mk rfl
    | (refine Leaf.mk ?_; omega)
    | exact Leaf.mk ⟨by omega, hxs⟩
    | exact Leaf.mk ⟨by omega, by omega⟩
    | exact absurd (hh ‹checkL y = 5›).ca ‹¬ checkL S.1 = 0›
    | exact absurd (hh ‹checkL y = 5›).cb ‹¬ checkL S.2.1 = 0›
    | (exfalso; have := (hh ‹checkL y = 5›).na; omega)
    | (exfalso; have := (hh ‹checkL y = 5›).nb; omega)
    | exact absurd (hh ‹checkL y = 5›).all (of_decide_eq_false ‹decide (S.1 ++ S.2.1 = y) = false›)
    | exact absurd (hh ‹checkL y = 5›).key ‹¬ (S.2.1.getD (Int.toNat 0) ([], [])).1 = S.2.2›
    | (exfalso; have h9 := sless_iff.2 (hh ‹checkL y = 5›).last; have h8 := h.symm.trans h9; exact Bool.noConfusion h8)
    | (exfalso; rcases hy with hy | hy <;> omega)
    | (exfalso; have := (h2 (by omega)).1; omega)
    | (exfalso; have := (h2 (by omega)).2.1; omega)
    | exact absurd (h2 (by omega)).2.2 (of_decide_eq_false ‹decide (S.1 ++ S.2.1 = y) = false›)
    | exact Leaf.mk (Exists.intro (i + 1, y) ⟨rfl, ⟨by dsimp only; omega, ‹checkL y = 0›, by dsimp only; omega⟩, by dsimp only; omega⟩)
  all_goals
    have hpx : putL x = (layF x, 0) := by rw [putL, if_pos hx]
    have hgx : getL (layF x) = (x, 0) := getL_put hx rfl
    have hsz := (checkL_cases.1 hx).2
    have hszl : sizeF x = (layF x).length := rfl
    simp only [hpx, hgx] at *
  all_goals first
    | exact Leaf.mk rfl
    | exact absurd rfl h
    | (refine Leaf.mk ?_; omega)
    | (refine Leaf.mk (show List.length (α := Int) (layF x) ≤ 50000 from ?_); omega)
    | exact absurd rfl (of_decide_eq_false h)
    | (simp at *; done)
    | skip
end Go.Proofs.YtkmfjlfejdoehaaGreat
