import Derived.Test.YtcgfolhnoggjfaaJ16



set_option linter.unusedVariables false
set_option linter.unusedSimpArgs false
set_option maxRecDepth 8000
set_option maxHeartbeats 4000000
namespace Go.Proofs.Ytcgfolhnoggjfaa
open Go.Eng
theorem prs_len (s : List Str) : (prs s).length = s.length := by rw [prs, List.length_map]
theorem prs_take {s : List Str} {i : Nat} (h : i < s.length) : prs (s.take (i + 1)) = prs (s.take i) ++ [(s.getD i [], [])] := by
  rw [prs, take_at [] h, List.map_append]; rfl
def sSampleEven : PSpec := lawSpec [StrsT, .int .u8]
theorem fSampleEven : FnOk Try.prog 5 := ⟨_, Try.func5, by decide, rfl⟩
theorem pSampleEven : PSound Try.prog 5 sSampleEven := by
  refine psound (T := tab) (S := (spOf [(13, sAwake33.spec (lsOf [])), (15, sSorted.spec (lsOf [])), (17, sPivots.spec (lsOf [])), (26, sCounts.spec (lsOf [])), (28, sSkew.spec (lsOf []))])) (keep := k5) (by kernel_rfl) tabOk (spCons (pOk pAwake33 fAwake33 (by decide) lsNil) (spCons (pOk pSorted fSorted (by decide) lsNil) (spCons (pOk pPivots fPivots (by decide) lsNil) (spCons (pOk pCounts fCounts (by decide) lsNil) (spCons (pOk pSkew fSkew (by decide) lsNil) spNil))))) (by kernel_rfl) Try.func5 (by kernel_rfl) (by decide) fun xs hg hp => ?_
  obtain ⟨keys, n, ⟨⟩⟩ := xs
  obtain ⟨-, hn, -⟩ := hg
  change List Str at keys
  change Int at n
  have hn : 0 ≤ n ∧ n ≤ 255 := bdu8 hn
  clear hp
  show vfun tab _ k5 Try.f5 [.sl .str keys, .i .u8 n] [] _
  refine Ev.out ?_
  repeat' (first | ((with_reducible refine Ev.mk ?_); conv => whnf) | (with_reducible refine And.intro ?_ ?_) | (intro h))
  all_goals (try simp only [decide_eq_true_eq, decide_eq_false_iff_not, beq_iff_eq, bne_iff_ne, beq_eq_false_iff_ne, bne_eq_false_iff_eq, Int.toNat_natCast, ge_iff_le, gt_iff_lt, Bool.not_eq_true', Bool.not_eq_false', Int.not_lt, Int.not_le, ne_eq] at *)
  all_goals (try dsimp only [Ty.den, Ty.dflt, StrsT] at *)
  all_goals (try simp only [eq4, ne4, eq3, ne3, eq2, ne2, Prod.eta, List.length_cons, List.length_nil, List.length_append, Nat.zero_add] at *)
  all_goals (try simp (disch := omega) only [wrap64] at *)
  all_goals try first | exact leafDraw (by kernel_rfl) | exact Leaf.mk trivial | (refine Leaf.mk ?_; omega) | (refine Leaf.mk ?_; unfold maxLen; omega)
  · exact Leaf.mk rfl
  · exact Leaf.mk (show keys.length ≤ 100000 by omega)
  · exact Leaf.mk (show keys.length ≤ 100000 by omega)
  rw [show (sSorted.fn (keys, ())).1.1 = sortF keys from rfl, show (sPivots.fn (keys, n, ())).1.1 = pivN (sortF keys) (mN (sortF keys) n).toNat (mN (sortF keys) n).toNat from rfl]
  have hSl := sortF_len keys
  have hSr := sortF_rise keys
  generalize sortF keys = S at *
  obtain ⟨m, hm, hmL⟩ : ∃ m : Nat, mN S n = m ∧ m ≤ S.length := by
    have h1 : 0 ≤ mN S n ∧ mN S n ≤ (S.length : Nat) := by unfold mN; split <;> omega
    exact ⟨(mN S n).toNat, by omega, by omega⟩
  rw [hm, Int.toNat_natCast]
  have hpr := fun k (h : k + 1 < (pivN S m m).length) => piv_rise hSr hmL h
  have hsr := fun k (h : k + 1 < S.length) => rise_sless hSr h
  have hpl := pivN_len S m m
  have hsk := even_skew hSr (show S.length ≤ 60 by omega) hmL
  have hbd := even_bd (s := S) (show S.length ≤ 60 by omega) (pivN S m m)
  have hcl := countsF_len (pivN S m m) (prs S)
  generalize pivN S m m = P at *
  unfold mN at hm
  refine LoopVC.weak [(.slot 7, .nil 45 PairT)] (fun i : Nat => [(8, .i .i64 i)]) (fun i => [(0, .arr 45 PairT (prs (S.take i)))]) (fun i => i ≤ S.length) (fun i => S.length - i) 0 (Ev.mk ?_)
  (conv => whnf)
  refine ⟨Leaf.mk rfl, Leaf.mk ?_, ?_⟩
  · omega
  intro i hi
  have hql := prs_len (S.take i)
  have htl : (S.take i).length ≤ i := by rw [List.length_take]; omega
  repeat' (first | ((with_reducible refine Ev.mk ?_); conv => whnf) | (with_reducible refine And.intro ?_ ?_) | (intro h))
  all_goals (try simp only [decide_eq_true_eq, decide_eq_false_iff_not, beq_iff_eq, bne_iff_ne, beq_eq_false_iff_ne, bne_eq_false_iff_eq, Int.toNat_natCast, ge_iff_le, gt_iff_lt, Bool.not_eq_true', Bool.not_eq_false', Int.not_lt, Int.not_le, ne_eq] at *)
  all_goals (try dsimp only [Ty.den, Ty.dflt, StrsT] at *)
  all_goals (try simp only [eq4, ne4, eq3, ne3, eq2, ne2, Prod.eta, List.length_cons, List.length_nil, List.length_append, Nat.zero_add] at *)
  all_goals (try simp (disch := omega) only [wrap64] at *)
  all_goals try first | exact leafDraw (by kernel_rfl) | exact Leaf.mk trivial | (refine Leaf.mk ?_; omega) | (refine Leaf.mk ?_; unfold maxLen; omega)
  all_goals try first
    | (refine Leaf.mk ⟨i + 1, ?_, by omega, by omega⟩
       rw [prs_take (by omega)]; rfl)
    | (exfalso
       obtain ⟨k, rfl⟩ : ∃ k, i = k + 1 := ⟨i - 1, by omega⟩
       have := hsr k (by omega)
       rw [show (((k + 1 : Nat) : Int) - 1).toNat = k by omega] at h
       rw [this] at h; exact Bool.noConfusion h)
  have hil : S.take i = S := take_all (by omega)
  rw [hil]
  clear hil hql htl
  have hql := prs_len S
  generalize hQ : prs S = Q at *
  refine LoopVC.on (fun j : Nat => [(9, .i .i64 j)]) (fun _ => []) (fun j => 1 ≤ j ∧ (j ≤ P.length ∨ j = 1)) (fun j => P.length - j) 1 ?_ ⟨Nat.le_refl _, .inr rfl⟩ ?_
  · rfl
  intro j ⟨hj1, hj⟩
  repeat' (first | ((with_reducible refine Ev.mk ?_); conv => whnf) | (with_reducible refine And.intro ?_ ?_) | (intro h))
  all_goals (try simp only [decide_eq_true_eq, decide_eq_false_iff_not, beq_iff_eq, bne_iff_ne, beq_eq_false_iff_ne, bne_eq_false_iff_eq, Int.toNat_natCast, ge_iff_le, gt_iff_lt, Bool.not_eq_true', Bool.not_eq_false', Int.not_lt, Int.not_le, ne_eq] at *)
  all_goals (try dsimp only [Ty.den, Ty.dflt, StrsT] at *)
  all_goals (try simp only [eq4, ne4, eq3, ne3, eq2, ne2, Prod.eta, List.length_cons, List.length_nil, List.length_append, Nat.zero_add] at *)
  all_goals (try simp (disch := omega) only [wrap64] at *)
  all_goals try first | exact leafDraw (by kernel_rfl) | exact Leaf.mk trivial | (refine Leaf.mk ?_; omega) | (refine Leaf.mk ?_; unfold maxLen; omega)
  all_goals first
    | exact Leaf.mk (Exists.intro (j + 1) ⟨rfl, ⟨by omega, .inl (by omega)⟩, by omega⟩)
    | (exfalso
       obtain ⟨k, rfl⟩ : ∃ k, j = k + 1 := ⟨j - 1, by omega⟩
       have := hpr k (by omega)
       rw [show (((k + 1 : Nat) : Int) - 1).toNat = k by omega] at h
       rw [this] at h; exact Bool.noConfusion h)
    | exact Leaf.mk (show P.length ≤ 100000 ∧ Q.length ≤ 100000 by omega)
    | exact Leaf.mk (show bdK (countsF P Q) ∧ (countsF P Q).length ≤ 100000 from ⟨hbd, by omega⟩)
    | exact Leaf.mk rfl
    | exact absurd (show 1 < skewF (countsF P Q) from ‹_›) (Int.not_lt.2 hsk)
    | (exfalso
       rw [show (sCounts.fn (P, Q, ())).1.1 = countsF P Q from rfl, hcl, hm] at h
       split at h <;> omega)
    | (trace_state; sorry)
end Go.Proofs.Ytcgfolhnoggjfaa
