import Derived.Test.YtlfehkoklgmjjaaG13


set_option linter.unusedVariables false
set_option linter.unusedSimpArgs false
set_option maxRecDepth 8000
set_option maxHeartbeats 4000000
namespace Go.Proofs.Ytlfehkoklgmjjaa
open Go.Eng
structure WholeF (xs : List Stk) (i : Nat) (x : List Stk) (A : List Stk) : Prop where
  chk : checkL x = 0
  ne : 0 < xs.length → 0 < x.length
  size : 700 < sizeF x → x.length = 1
  len : A.length + x.length ≤ xs.length
  sepl : 0 < i → i ≤ (sepsF (leavesF xs)).length
  sep : 0 < i → (sepsF (leavesF xs)).getD (i - 1) [] = (x.getD 0 stk0).1
  last : 0 < i → 0 < A.length ∧ (A.getD (A.length - 1) stk0).1 < (x.getD 0 stk0).1
theorem whole {xs : List Stk} {i : Nat} (hM : mayL xs = 0) (hi : i < (leavesF xs).length) : WholeF xs i ((leavesF xs).getD i []) ((leavesF xs).take i).flatten := by
  have hmem := getD_mem ([] : List Stk) hi
  have hfl := leaves_flat xs
  have hsplit : xs = ((leavesF xs).take i).flatten ++ ((leavesF xs).getD i [] ++ ((leavesF xs).drop (i + 1)).flatten) := by
    conv => lhs; rw [← hfl, ← List.take_append_drop i (leavesF xs), drop_at [] hi]
    rw [List.flatten_append, List.flatten_cons]
  have hll : xs = [] → leavesF xs = [[]] := by rintro rfl; rfl
  have hpk : xs ≠ [] → ∀ x ∈ leavesF xs, Packed x := leaves_packed
  have hsl : (sepsF (leavesF xs)).length = (leavesF xs).length - 1 := by rw [sepsF, List.length_map, List.length_drop]
  have hem : xs = [] → i = 0 := fun h => by rw [hll h] at hi; simpa using hi
  have hse : ∀ j, 1 ≤ j → j < (leavesF xs).length → (sepsF (leavesF xs)).getD (j - 1) [] = sepF ((leavesF xs).getD j []) := fun j h1 hj => by
    rw [sepsF, List.getD_eq_getElem?_getD, List.getElem?_map, List.getElem?_drop, show 1 + (j - 1) = j by omega, List.getElem?_eq_getElem hj]
    simp [List.getD, hj]
  generalize hx : (leavesF xs).getD i [] = x at *
  generalize hA : ((leavesF xs).take i).flatten = A at *
  have hxl : xs.length = A.length + (x.length + ((leavesF xs).drop (i + 1)).flatten.length) := by
    conv => lhs; rw [hsplit]
    rw [List.length_append, List.length_append]
  have hms : mayL x = 0 := leaf_may hM hmem
  have hsz : sizeF x ≤ 1016 := by
    by_cases h : xs = []
    · have h1 : x = [] := by rw [hll h] at hmem; simpa using hmem
      rw [h1]; decide
    · exact packed_size (hpk h x hmem)
  refine ⟨by rw [checkL, if_pos hms, if_neg (by omega)], fun h => ?_, fun h => ?_, by omega, fun h => by omega, fun h => ?_, fun h => ?_⟩
  · exact List.length_pos_iff.2 (hpk (List.length_pos_iff.1 h) x hmem).1
  · by_cases h0 : xs = []
    · have h1 : x = [] := by rw [hll h0] at hmem; simpa using hmem
      rw [h1] at h; exact absurd h (by decide)
    · rcases (hpk h0 x hmem).2 with h2 | h2
      · omega
      · exact h2
  · rw [hse i (by omega) hi, hx]; rfl
  · have h0 : xs ≠ [] := fun h0 => by have := hem h0; omega
    have hx0 : 0 < x.length := List.length_pos_iff.2 (hpk h0 x hmem).1
    have hA0 : 0 < A.length := by
      have h1 : 0 < (leavesF xs).length := by omega
      have h2 : (leavesF xs).getD 0 [] ∈ leavesF xs := getD_mem [] h1
      have h3 := List.length_pos_iff.2 (hpk h0 _ h2).1
      have h4 : (leavesF xs).take i = (leavesF xs).getD 0 [] :: ((leavesF xs).drop 1).take (i - 1) := by
        obtain ⟨k, rfl⟩ : ∃ k, i = k + 1 := ⟨i - 1, by omega⟩
        have := drop_at ([] : List Stk) h1
        rw [List.drop_zero] at this
        conv => lhs; rw [this]
        rfl
      rw [← hA, h4, List.flatten_cons, List.length_append]; omega
    refine ⟨hA0, ?_⟩
    have hu : Up xs xs.length := up_pair.2 (mayL_zero.1 hM).2.2
    have h1 := hu A.length (by omega) hA0
    have e1 : xs.getD (A.length - 1) stk0 = A.getD (A.length - 1) stk0 := by
      conv => lhs; rw [hsplit]
      rw [List.getD_eq_getElem?_getD, List.getElem?_append_left (by omega), ← List.getD_eq_getElem?_getD]
    have e2 : xs.getD A.length stk0 = x.getD 0 stk0 := by
      conv => lhs; rw [hsplit]
      rw [List.getD_eq_getElem?_getD, List.getElem?_append_right (Nat.le_refl _), Nat.sub_self, List.getElem?_append_left hx0, ← List.getD_eq_getElem?_getD]
    rw [e1, e2] at h1
    exact h1
def sBulkWhole : PSpec := lawSpec [SsT]
theorem fBulkWhole : FnOk Try.prog 14 := ⟨_, Try.func14, by decide, rfl⟩
theorem pBulkWhole : PSound Try.prog 14 sBulkWhole := by
  refine psound (T := tab) (S := (spOf [(60, sLight14.spec (lsOf [])), (61, sAwake19.spec (lsOf [])), (62, sLeaves.spec (lsOf [])), (64, sSeps.spec (lsOf [])), (73, sLCheck.spec (lsOf [])), (74, sLSize.spec (lsOf [])), (66, sSameAll.spec (lsOf []))])) (keep := k14) (by kernel_rfl) tabOk (spCons (pOk pLight14 fLight14 (by decide) lsNil) (spCons (pOk pAwake19 fAwake19 (by decide) lsNil) (spCons (pOk pLeaves fLeaves (by decide) lsNil) (spCons (pOk pSeps fSeps (by decide) lsNil) (spCons (pOk pLCheck fLCheck (by decide) lsNil) (spCons (pOk pLSize fLSize (by decide) lsNil) (spCons (pOk pSameAll fSameAll (by decide) lsNil) spNil))))))) (by kernel_rfl) Try.func14 (by kernel_rfl) (by decide) fun xs hg hp => ?_
  obtain ⟨xs, ⟨⟩⟩ := xs
  obtain ⟨⟨hl, -⟩, -⟩ := hg
  change List Stk at xs
  change xs.length ≤ _ at hl
  clear hp
  show vfun tab _ k14 Try.f14 [.sl StT xs] [] _
  refine Ev.out ?_
  repeat' (first | ((with_reducible refine Ev.mk ?_); conv => whnf) | (with_reducible refine And.intro ?_ ?_) | (intro h))
  all_goals (try simp only [decide_eq_true_eq, decide_eq_false_iff_not, beq_iff_eq, bne_iff_ne, beq_eq_false_iff_ne, bne_eq_false_iff_eq, Int.toNat_natCast, ge_iff_le, gt_iff_lt, Bool.not_eq_true', Bool.not_eq_false', Int.not_lt, Int.not_le, ne_eq] at *)
  all_goals (try dsimp only [Ty.den, Ty.dflt, StT, SsT, sLight14] at *)
  all_goals (try simp only [eq4, ne4, eq3, ne3, eq2, ne2, Prod.eta, List.length_cons, List.length_nil, List.length_append, Nat.zero_add] at *)
  all_goals (try simp (disch := omega) only [wrap64] at *)
  all_goals try first | exact leafDraw (by kernel_rfl) | exact Leaf.mk trivial | (refine Leaf.mk ?_; omega) | (refine Leaf.mk ?_; unfold maxLen; omega)
  · exact Leaf.mk rfl
  all_goals
    have hx := lightL_len ‹lightL xs 60 = true›
    have hy := leavesR_len xs
  · exact Leaf.mk (show xs.length ≤ 100000 by omega)
  · exact Leaf.mk rfl
  · exfalso
    have h0 : ¬ (leavesR xs).2 = 0 := by assumption
    apply h
    show (((leavesR xs).1.length : Nat) : Int) = 0
    unfold leavesR at h0 ⊢
    split
    · rename_i hc; rw [if_pos hc] at h0; exact absurd rfl h0
    · rfl
  · exact Leaf.mk (show (leavesR xs).1.length ≤ 1000000 by omega)
  have hM : mayL xs = 0 := by
    have h0 : (leavesR xs).2 = 0 := h
    unfold leavesR at h0
    split at h0 <;> assumption
  have hL : (leavesR xs).1 = leavesF xs := by rw [leavesR, if_pos hM]
  rw [hL] at hy
  rw [show (sLeaves.fn (xs, ())).1.1 = (leavesR xs).1 from rfl, hL]
  rw [show (sSeps.fn (leavesF xs, ())).1.1 = sepsF (leavesF xs) from rfl]
  clear h hL hl
  refine LoopVC.weak [(.slot 6, .nil 76 StT)] (fun i : Nat => [(7, .i .i64 i)]) (fun i => [(0, .arr 76 StT (((leavesF xs).take i).flatten))]) (fun i => i ≤ (leavesF xs).length) (fun i => (leavesF xs).length - i) 0 (Ev.mk ?_)
  (conv => whnf)
  refine ⟨Leaf.mk rfl, Leaf.mk ?_, ?_⟩
  · omega
  intro i hi
  repeat' (first | ((with_reducible refine Ev.mk ?_); conv => whnf) | (with_reducible refine And.intro ?_ ?_) | (intro h))
  all_goals (try simp only [decide_eq_true_eq, decide_eq_false_iff_not, beq_iff_eq, bne_iff_ne, beq_eq_false_iff_ne, bne_eq_false_iff_eq, Int.toNat_natCast, ge_iff_le, gt_iff_lt, Bool.not_eq_true', Bool.not_eq_false', Int.not_lt, Int.not_le, ne_eq] at *)
  all_goals (try dsimp only [Ty.den, Ty.dflt, StT, SsT] at *)
  all_goals (try simp only [eq4, ne4, eq3, ne3, eq2, ne2, Prod.eta, List.length_cons, List.length_nil, List.length_append, Nat.zero_add] at *)
  all_goals (try simp (disch := omega) only [wrap64] at *)
  all_goals try first | exact leafDraw (by kernel_rfl) | exact Leaf.mk trivial | (refine Leaf.mk ?_; omega) | (refine Leaf.mk ?_; unfold maxLen; omega)
  all_goals by_cases hil : i < (leavesF xs).length
  all_goals try (exfalso; omega)
  all_goals try
    have W := whole hM hil
    generalize hxg : (leavesF xs).getD i [] = x at *
    have hA : ((leavesF xs).take (i + 1)).flatten = ((leavesF xs).take i).flatten ++ x := by rw [flat_at hil, hxg]
    generalize hAg : ((leavesF xs).take i).flatten = A at *
    have w1 := W.len
    have w2 := W.ne
    have w3 := W.sepl
    have w4 := W.last
    rw [show (sLSize.fn (x, ())).1.1 = ((sizeF x : Nat) : Int) from rfl] at *
  all_goals try
    have W := whole hM hil
    generalize hxg : (leavesF xs).getD i [] = x at *
    have hA : ((leavesF xs).take (i + 1)).flatten = ((leavesF xs).take i).flatten ++ x := by rw [flat_at hil, hxg]
    generalize hAg : ((leavesF xs).take i).flatten = A at *
    have w1 := W.len
    have w2 := W.ne
    have w3 := W.sepl
    have w4 := W.last
  all_goals try rw [show ((i : Int) - 1).toNat = i - 1 by omega] at *
  all_goals try rw [W.sep (by omega)] at *
  all_goals try rw [wrap64 (n := (A.length : Int) - 1) (by have := (w4 (by omega)).1; omega)] at *
  all_goals try rw [show ((A.length : Int) - 1).toNat = A.length - 1 by omega] at *
  all_goals try simp only [Int.toNat_zero] at *
  all_goals try first
    | exact Leaf.mk (show x.length ≤ 100000 by omega)
    | (refine Leaf.mk ?_; omega)
    | (refine Leaf.mk ?_; unfold maxLen; omega)
    | (refine Leaf.mk ?_; have := (w4 (by omega)).1; omega)
    | exact absurd W.chk h
    | (exfalso; have := W.size; omega)
    | (exfalso; have h9 := ‹sless _ _ = true›; rw [sless_irrefl] at h9; exact Bool.noConfusion h9)
    | (exfalso; have h9 := sless_iff.2 (w4 (by omega)).2; rw [h9] at h; exact Bool.noConfusion h)
    | exact Leaf.mk ⟨i + 1, by rw [hA]; rfl, by omega, by omega⟩
  all_goals
    obtain rfl : i = (leavesF xs).length := by omega
    rw [List.take_length, leaves_flat] at *
    have hsl : (sepsF (leavesF xs)).length = (leavesF xs).length - 1 := by rw [sepsF, List.length_map, List.length_drop]
    have hpos : 0 < (leavesF xs).length := by rw [leavesF, List.length_append, List.length_singleton]; omega
  · exact Leaf.mk rfl
  · exfalso; omega
  · exact sameL_self (show sameL xs xs = false from ‹_›)
end Go.Proofs.Ytlfehkoklgmjjaa
