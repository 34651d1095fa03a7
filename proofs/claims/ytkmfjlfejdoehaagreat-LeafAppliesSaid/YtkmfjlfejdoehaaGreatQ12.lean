import Derived.Test.YtkmfjlfejdoehaaGreatQ11
import Derived.Test.YtkmfjlfejdoehaaGreatQ8
import Derived.Test.YtkmfjlfejdoehaaGreatQ10
import Derived.Test.YtkmfjlfejdoehaaGreatQ7
import Derived.Test.YtkmfjlfejdoehaaGreatQ9
/- Texts, one behind the other. -/
set_option linter.unusedVariables false
set_option linter.unusedSimpArgs false
set_option maxRecDepth 8000
set_option maxHeartbeats 4000000
namespace Go.Proofs.YtkmfjlfejdoehaaGreat
open Go.Eng
theorem light_all {l : List Stk} {m : Int} (h : lightL l m = true) : ∀ s ∈ l, s.2.length ≤ 12 := fun s hs => by
  unfold lightL at h
  rw [Bool.and_eq_true, List.all_eq_true] at h
  exact (light_of (h.2 s hs)).2
def sOwn14 : PSpec := ⟨[.d SsT], [⟨true, [.d SsT]⟩], fun x => List.length x.1 ≤ 100000 ∧ ∀ s ∈ x.1, List.length s.2 ≤ 100000, fun x => ((x.1, ()), ())⟩
theorem fOwn14 : FnOk Tryz.prog 13 := ⟨_, Tryz.func13, by decide, rfl⟩
theorem pOwn14 : PSound Tryz.prog 13 sOwn14 := by
  refine psound (T := tab) (S := (spOf [])) (keep := k13) (by kernel_rfl) tabOk spNil (by kernel_rfl) Tryz.func13 (by kernel_rfl) (by decide) fun xs hg hp => ?_
  obtain ⟨l, ⟨⟩⟩ := xs
  change List Stk at l
  change l.length ≤ 100000 ∧ ∀ s ∈ l, List.length s.2 ≤ 100000 at hp
  obtain ⟨hl, hs⟩ := hp
  clear hg
  show vfun tab _ k13 Tryz.f13 [.sl StT l] [] _
  refine Ev.out ?_
  repeat' (first | ((with_reducible refine Ev.mk ?_); conv => whnf) | (with_reducible refine And.intro ?_ ?_) | (intro h))
  all_goals (try simp only [decide_eq_true_eq, decide_eq_false_iff_not, beq_iff_eq, bne_iff_ne, beq_eq_false_iff_ne, bne_eq_false_iff_eq, Int.toNat_natCast, ge_iff_le, gt_iff_lt, Bool.not_eq_true', Bool.not_eq_false', Int.not_lt, Int.not_le, ne_eq] at *)
  all_goals (try dsimp only [Ty.den, Ty.dflt, StT] at *)
  all_goals (try simp only [eq4, ne4, eq3, ne3, eq2, ne2, Prod.eta, List.length_cons, List.length_nil, List.length_append, Nat.zero_add] at *)
  all_goals (try simp (disch := omega) only [wrap64] at *)
  all_goals try first | exact leafDraw (by kernel_rfl) | exact Leaf.mk trivial | (refine Leaf.mk ?_; omega) | (refine Leaf.mk ?_; unfold maxLen; omega)
  refine LoopVC.weak [(.cell 1 0, .nil 38 StT)] (fun i : Nat => [(4, .i .i64 i)]) (fun i => [(2, .arr 38 StT (l.take i))]) (fun i => i ≤ l.length) (fun i => l.length - i) 0 (Ev.mk ?_)
  (conv => whnf)
  refine ⟨Leaf.mk ?_, Leaf.mk ?_, ?_⟩
  · rfl
  · omega
  intro i hi
  have hsi : i < l.length → (l.getD i stk0).2.length ≤ 100000 := fun h => hs _ (getD_mem stk0 h)
  repeat' (first | ((with_reducible refine Ev.mk ?_); conv => whnf) | (with_reducible refine And.intro ?_ ?_) | (intro h))
  all_goals (try simp only [decide_eq_true_eq, decide_eq_false_iff_not, beq_iff_eq, bne_iff_ne, beq_eq_false_iff_ne, bne_eq_false_iff_eq, Int.toNat_natCast, ge_iff_le, gt_iff_lt, Bool.not_eq_true', Bool.not_eq_false', Int.not_lt, Int.not_le, ne_eq] at *)
  all_goals (try dsimp only [Ty.den, Ty.dflt, StT] at *)
  all_goals (try simp only [eq4, ne4, eq3, ne3, eq2, ne2, Prod.eta, List.length_cons, List.length_nil, List.length_append, Nat.zero_add] at *)
  all_goals (try simp (disch := omega) only [wrap64] at *)
  all_goals try first | exact leafDraw (by kernel_rfl) | exact Leaf.mk trivial | (refine Leaf.mk ?_; omega) | (refine Leaf.mk ?_; unfold maxLen; omega)
  all_goals try
    have htl : (l.take i).length = i := by rw [List.length_take]; omega
  all_goals first
    | (refine Leaf.mk ?_; have := hsi (by omega); dsimp only [stk0] at this; omega)
    | (refine Leaf.mk ?_; have := hsi (by omega); dsimp only [stk0] at this; unfold maxLen; omega)
    | (refine Leaf.mk ?_; omega)
    | (refine Leaf.mk ?_; unfold maxLen; omega)
    | (refine Leaf.mk (Exists.intro (i + 1) ⟨?_, by omega, by omega⟩)
       rw [take_at stk0 (by omega)]; rfl)
    | (refine Leaf.mk (ret1 (show l.take i = l from ?_))
       exact List.take_of_length_le (by omega))
def sWrite14 : PSpec := ⟨[.d .str], [⟨true, [.d MsgT]⟩], fun _ => True, fun x => (((0, x.1, 1, 0, false, [118]), ()), ())⟩
theorem fWrite14 : FnOk Tryz.prog 64 := ⟨_, Tryz.func64, by decide, rfl⟩
theorem pWrite14 : PSound Tryz.prog 64 sWrite14 := by
  refine psound (T := tab) (S := (spOf [])) (keep := k64) (by kernel_rfl) tabOk spNil (by kernel_rfl) Tryz.func64 (by kernel_rfl) (by decide) fun xs hg hp => ?_
  obtain ⟨k, ⟨⟩⟩ := xs
  change List UInt8 at k
  show vfun tab _ k64 Tryz.f64 [.s k] [] _
  refine Ev.out ?_
  repeat' (first | ((with_reducible refine Ev.mk ?_); conv => whnf) | (with_reducible refine And.intro ?_ ?_) | (intro h))
  all_goals exact Leaf.mk rfl
def sAwake14 : PSpec := ⟨[], [⟨false, [.d .bool]⟩], fun _ => True, fun _ => ((true, ()), ())⟩
theorem fAwake14 : FnOk Tryz.prog 12 := ⟨_, Tryz.func12, by decide, rfl⟩
theorem pAwake14 : PSound Tryz.prog 12 sAwake14 := by
  refine psound (T := tab) (S := (spOf [(64, sWrite14.spec (lsOf [])), (15, sLApply.spec (lsOf [])), (29, sLSplit.spec (lsOf [])), (31, sLPut.spec (lsOf [])), (33, sLGet.spec (lsOf [])), (19, sLFind.spec (lsOf [])), (17, sLOver.spec (lsOf [])), (26, sLSize.spec (lsOf [])), (28, sLSame.spec (lsOf [])), (22, sLRange.spec (lsOf [])), (35, sLJoin.spec (lsOf [])), (24, sLCheck.spec (lsOf []))])) (keep := k12) (by kernel_rfl) tabOk (spCons (pOk pWrite14 fWrite14 (by decide) lsNil) (spCons (pOk pLApply fLApply (by decide) lsNil) (spCons (pOk pLSplit fLSplit (by decide) lsNil) (spCons (pOk pLPut fLPut (by decide) lsNil) (spCons (pOk pLGet fLGet (by decide) lsNil) (spCons (pOk pLFind fLFind (by decide) lsNil) (spCons (pOk pLOver fLOver (by decide) lsNil) (spCons (pOk pLSize fLSize (by decide) lsNil) (spCons (pOk pLSame fLSame (by decide) lsNil) (spCons (pOk pLRange fLRange (by decide) lsNil) (spCons (pOk pLJoin fLJoin (by decide) lsNil) (spCons (pOk pLCheck fLCheck (by decide) lsNil) spNil)))))))))))) (by kernel_rfl) Tryz.func12 (by kernel_rfl) (by decide) fun xs hg hp => ?_
  obtain ⟨⟩ := xs
  show vfun tab _ k12 Tryz.f12 [] [] _
  refine Ev.out ?_
  repeat' (first | ((with_reducible refine Ev.mk ?_); conv => whnf) | (with_reducible refine And.intro ?_ ?_) | (intro h; first | exact absurd h (by decide +kernel) | skip))
  all_goals first
    | exact Leaf.mk trivial
    | exact leafDraw (by kernel_rfl)
    | (refine Leaf.mk ?_; change _ ∧ _; decide +kernel)
    | (refine Leaf.mk ?_; change (_ : Nat) ≤ _; decide +kernel)
    | (refine Leaf.mk ?_; decide +kernel)
    | (refine Leaf.mk ?_; change _ ∧ _ ∧ _ ∧ List.Pairwise _ _; decide +kernel)
    | exact Leaf.mk rfl
end Go.Proofs.YtkmfjlfejdoehaaGreat

set_option linter.unusedVariables false
set_option linter.unusedSimpArgs false
set_option maxRecDepth 8000
set_option maxHeartbeats 4000000
namespace Go.Proofs.YtkmfjlfejdoehaaGreat
open Go.Eng
abbrev BdT : Ty := .pair .str .str
theorem ownP {l : List Stk} {m : Int} (hm : m ≤ 100) (h : lightL l m = true) : l.length ≤ 100000 ∧ ∀ s ∈ l, List.length s.2 ≤ 100000 := by
  have h1 := lightL_len h
  exact ⟨by omega, fun s hs => by have := light_all h s hs; omega⟩
theorem appP {l : List Stk} {m : Int} (hm : m ≤ 100) (h : lightL l m = true) : l.length ≤ 1000 ∧ ∀ s ∈ l, List.length s.2 ≤ 1000 := by
  have h1 := lightL_len h
  exact ⟨by omega, fun s hs => by have := light_all h s hs; omega⟩
theorem lenP {l : List Stk} {m : Int} (hm : m ≤ 100) (h : lightL l m = true) : l.length ≤ 100000 := (ownP hm h).1
theorem lightMm_len {l : List Msg} {k : Int} (h : lightM l k = true) : (l.length : Int) ≤ k := by
  unfold lightM at h
  rw [Bool.and_eq_true] at h
  exact of_decide_eq_true h.1
def riseB (l : List Stk) : Nat → Bool
  | 0 => true
  | i + 1 => if i = 0 then true else (riseB l i && sless (l.getD (i - 1) stk0).1 (l.getD i stk0).1)
theorem riseB_up {l : List Stk} : ∀ n, riseB l n = true → Up l n
  | 0, _ => fun j hj _ => by omega
  | n + 1, h => by
    rw [riseB] at h
    split at h
    · rename_i h0; subst h0; exact fun j hj h1 => by omega
    · rw [Bool.and_eq_true] at h
      exact up_step (riseB_up n h.1) (sless_iff.1 h.2)
theorem riseB_K {l : List Stk} (h : riseB l l.length = true) : RiseK l := up_pair.1 (riseB_up _ h)
def sLeafApplies : PSpec := lawSpec [SsT, MsT, BdT]
theorem pLeafApplies : PSound Tryz.prog 3 sLeafApplies := by
  refine psound (T := tab) (S := (spOf [(10, sLight14.spec (lsOf [])), (11, sLightM.spec (lsOf [])), (12, sAwake14.spec (lsOf [])), (13, sOwn14.spec (lsOf [])), (15, sLApply.spec (lsOf [])), (16, sLApplyR.spec (lsOf [])), (14, sSameAll.spec (lsOf [])), (17, sLOver.spec (lsOf [])), (18, sLOverR.spec (lsOf []))])) (keep := k3) (by kernel_rfl) tabOk (spCons (pOk pLight14 fLight14 (by decide) lsNil) (spCons (pOk pLightM fLightM (by decide) lsNil) (spCons (pOk pAwake14 fAwake14 (by decide) lsNil) (spCons (pOk pOwn14 fOwn14 (by decide) lsNil) (spCons (pOk pLApply fLApply (by decide) lsNil) (spCons (pOk pLApplyR fLApplyR (by decide) lsNil) (spCons (pOk pSameAll fSameAll (by decide) lsNil) (spCons (pOk pLOver fLOver (by decide) lsNil) (spCons (pOk pLOverR fLOverR (by decide) lsNil) spNil))))))))) (by kernel_rfl) Tryz.func3 (by kernel_rfl) (by decide) fun xs hg hp => ?_
  obtain ⟨l, m, ⟨lo, up⟩, ⟨⟩⟩ := xs
  obtain ⟨-, -, ⟨hlo, hhi⟩, -⟩ := hg
  change List Stk at l
  change List Msg at m
  change List UInt8 at lo up
  clear hp
  show vfun tab _ k3 Tryz.f3 [.sl StT l, .sl MsgT m, .agg [.s lo, .s up]] [] _
  refine Ev.out ?_
  repeat' (first | ((with_reducible refine Ev.mk ?_); conv => whnf) | (with_reducible refine And.intro ?_ ?_) | (intro h))
  all_goals (try simp only [decide_eq_true_eq, decide_eq_false_iff_not, beq_iff_eq, bne_iff_ne, beq_eq_false_iff_ne, bne_eq_false_iff_eq, Int.toNat_natCast, ge_iff_le, gt_iff_lt, Bool.not_eq_true', Bool.not_eq_false', Int.not_lt, Int.not_le, ne_eq] at *)
  all_goals (try dsimp only [Ty.den, Ty.dflt, StT, SsT, sLight14] at *)
  all_goals (try simp only [eq4, ne4, eq3, ne3, eq2, ne2, Prod.eta, List.length_cons, List.length_nil, List.length_append, Nat.zero_add] at *)
  all_goals (try simp (disch := omega) only [wrap64] at *)
  all_goals try first | exact leafDraw (by kernel_rfl) | exact Leaf.mk trivial | (refine Leaf.mk ?_; omega) | (refine Leaf.mk ?_; unfold maxLen; omega)
  all_goals first
    | exact Leaf.mk trivial
    | exact Leaf.mk rfl
    | exact absurd rfl h
    | exact Leaf.mk (show List.length l ≤ 100000 ∧ ∀ s ∈ l, List.length s.2 ≤ 100000 from ownP (by decide) ‹lightL l 12 = true›)
    | exact Leaf.mk (show List.length l ≤ 100000 from lenP (by decide) ‹lightL l 12 = true›)
    | exact Leaf.mk (show List.length l ≤ 1000 ∧ ∀ s ∈ l, List.length s.2 ≤ 1000 from appP (by decide) ‹lightL l 12 = true›)
    | exact sameL_self (show sameL l l = false from ‹_›)
    | skip
  have hml := lightMm_len (l := m) (k := 9) ‹(sLightM.fn (m, 9, ())).1.1 = true›
  have hll := lightL_len ‹lightL l 12 = true›
  refine LoopVC.on (fun i : Nat => [(8, .i .i64 i)]) (fun _ => []) (fun i => i ≤ m.length) (fun i => m.length - i) 0 rfl (by omega) ?_
  intro i hi
  repeat' (first | ((with_reducible refine Ev.mk ?_); conv => whnf) | (with_reducible refine And.intro ?_ ?_) | (intro h))
  all_goals (try simp only [decide_eq_true_eq, decide_eq_false_iff_not, beq_iff_eq, bne_iff_ne, beq_eq_false_iff_ne, bne_eq_false_iff_eq, Int.toNat_natCast, ge_iff_le, gt_iff_lt, Bool.not_eq_true', Bool.not_eq_false', Int.not_lt, Int.not_le, ne_eq] at *)
  all_goals (try dsimp only [Ty.den, Ty.dflt, StT] at *)
  all_goals (try simp only [eq4, ne4, eq3, ne3, eq2, ne2, Prod.eta, List.length_cons, List.length_nil, List.length_append, Nat.zero_add] at *)
  all_goals (try simp (disch := omega) only [wrap64] at *)
  all_goals try first | exact leafDraw (by kernel_rfl) | exact Leaf.mk trivial | (refine Leaf.mk ?_; omega) | (refine Leaf.mk ?_; unfold maxLen; omega)
  all_goals first
    | exact Leaf.mk trivial
    | exact Leaf.mk rfl
    | exact absurd rfl h
    | exact Leaf.mk (show List.length l ≤ 100000 ∧ ∀ s ∈ l, List.length s.2 ≤ 100000 from ownP (by decide) ‹lightL l 12 = true›)
    | exact Leaf.mk (show List.length l ≤ 100000 from lenP (by decide) ‹lightL l 12 = true›)
    | exact Leaf.mk (show List.length l ≤ 1000 ∧ ∀ s ∈ l, List.length s.2 ≤ 1000 from appP (by decide) ‹lightL l 12 = true›)
    | exact sameL_self (show sameL l l = false from ‹_›)
    | skip
  all_goals first
    | exact sameL_self (show sameL (applyL l (m.getD i (0, [], 0, 0, false, []))) (applyL l (m.getD i (0, [], 0, 0, false, []))) = false from ‹_›)
    | exact Leaf.mk ⟨i + 1, rfl, by omega, by omega⟩
    | skip
  refine LoopVC.weak2 [(.slot 9, .b)] (fun i : Nat => [(9, .b (riseB l i)), (10, .i .i64 i)]) (fun _ => []) (fun i => 1 ≤ i ∧ (i ≤ l.length ∨ i = 1)) (fun i => l.length - i) 1 (Ev.mk ?_)
  (conv => whnf)
  refine ⟨Leaf.mk ?_, Leaf.mk ?_, ?_⟩
  · rfl
  · omega
  intro i hi
  have e : i < l.length → riseB l (i + 1) = (riseB l i && sless (l.getD (i - 1) stk0).1 (l.getD i stk0).1) := fun _ => by rw [riseB, if_neg (by omega)]
  have hR : l.length ≤ i → riseB l i = true → RiseK l := fun h1 h2 => riseB_K (by
    rcases hi.2 with h3 | h3
    · rw [show l.length = i by omega]; exact h2
    · have h4 : l.length = 0 ∨ l.length = 1 := by omega
      rcases h4 with h4 | h4 <;> rw [h4] <;> rfl)
  repeat' (first | ((with_reducible refine Ev.mk ?_); conv => whnf) | (with_reducible refine And.intro ?_ ?_) | (intro h))
  all_goals (try simp only [decide_eq_true_eq, decide_eq_false_iff_not, beq_iff_eq, bne_iff_ne, beq_eq_false_iff_ne, bne_eq_false_iff_eq, Int.toNat_natCast, ge_iff_le, gt_iff_lt, Bool.not_eq_true', Bool.not_eq_false', Int.not_lt, Int.not_le, ne_eq] at *)
  all_goals (try dsimp only [Ty.den, Ty.dflt, StT] at *)
  all_goals (try simp only [eq4, ne4, eq3, ne3, eq2, ne2, Prod.eta, List.length_cons, List.length_nil, List.length_append, Nat.zero_add] at *)
  all_goals (try simp (disch := omega) only [wrap64] at *)
  all_goals try first | exact leafDraw (by kernel_rfl) | exact Leaf.mk trivial | (refine Leaf.mk ?_; omega) | (refine Leaf.mk ?_; unfold maxLen; omega)
  all_goals try rw [show ((i : Int) - 1).toNat = i - 1 by omega]
  · refine Leaf.mk ⟨i + 1, .inl ?_, by omega, by omega⟩
    rw [e (by omega), show riseB l i = true from ‹_›, Bool.true_and]; rfl
  · refine Leaf.mk ⟨i + 1, .inr ⟨[(.slot 9, .b)], ?_⟩, by omega, by omega⟩
    rw [e (by omega), show riseB l i = false from ‹_›, Bool.false_and]; rfl
  all_goals first
    | exact Leaf.mk rfl
    | exact sameL_self (show sameL l l = false from ‹_›)
    | (have hK := hR (by omega) ‹riseB l i = true›
       have hA := appP (by decide) ‹lightL l 12 = true›
       exact Leaf.mk (show l.length ≤ 1000 ∧ m.length ≤ 1000 ∧ (∀ s ∈ l, List.length s.2 ≤ 1000) ∧ RiseK l from ⟨hA.1, by omega, hA.2, hK⟩))
    | exact sameL_self (show sameL (overM l m lo up) (overM l m lo up) = false from ‹_›)
    | skip
end Go.Proofs.YtkmfjlfejdoehaaGreat
