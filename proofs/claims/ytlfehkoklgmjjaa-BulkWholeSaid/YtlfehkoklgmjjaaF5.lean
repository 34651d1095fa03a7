import Derived.Test.YtlfehkoklgmjjaaF4
import Derived.Test.YtlfehkoklgmjjaaC5


set_option linter.unusedVariables false
set_option linter.unusedSimpArgs false
set_option maxRecDepth 8000
set_option maxHeartbeats 4000000
namespace Go.Proofs.Ytlfehkoklgmjjaa
open Go.Eng
/-- No pair stands wrong. -/
def badP (a b : Ver) : Bool := (decide (a.2.1 = 0) && (decide (¬ b.2.1 = 0) || decide (a.1 = b.1))) || (decide (¬ b.2.1 = 0) && decide (b.2.1 < a.2.1))
def sSCheckR : PSpec := sCheck
theorem OrdB_iff : ∀ (ys : List Ver) (l : List Int), OrdB ys l ↔ (∀ v ∈ ys, v.2.1 = 0 ∧ v.1 ∉ l) ∧ ys.Pairwise (fun a b => a.1 ≠ b.1)
  | [], l => by simp [OrdB]
  | v :: r, l => by
    rw [OrdB, OrdB_iff r (v.1 :: l), List.pairwise_cons]
    constructor
    · rintro ⟨h1, h2, h3, h4⟩
      refine ⟨fun w hw => ?_, fun w hw hc => (h3 w hw).2 (by simp [hc]), h4⟩
      rcases List.mem_cons.1 hw with rfl | hw
      · exact ⟨h1, h2⟩
      · exact ⟨(h3 w hw).1, fun hc => (h3 w hw).2 (by simp [hc])⟩
    · rintro ⟨h1, h2, h3⟩
      refine ⟨(h1 v (by simp)).1, (h1 v (by simp)).2, fun w hw => ⟨(h1 w (by simp [hw])).1, fun hc => ?_⟩, h3⟩
      rcases List.mem_cons.1 hc with hc | hc
      · exact h2 w hw hc.symm
      · exact (h1 w (by simp [hw])).2 hc
theorem firstZ_at (xs : List Ver) : firstZ xs ≤ xs.length ∧ (firstZ xs < xs.length → (xs.getD (firstZ xs) ver0).2.1 = 0) := by
  have hp := idxF_pos ordered1 xs 0
  unfold firstZ
  split
  · exact ⟨Nat.le_refl _, fun h => absurd h (Nat.lt_irrefl _)⟩
  · refine ⟨by omega, fun _ => ?_⟩
    rcases Go.Eng.idxF_find ver0 ordered1 xs 0 with ⟨h1, _⟩ | ⟨j, h1, h2, h3⟩
    · omega
    · have := List.find?_some h3
      rw [h1, show (((0 : Nat) : Int) + (j : Int)).toNat = j by omega]
      simpa [ordered1] using this
/-- No two stand wrong. -/
def okP (xs : List Ver) (i : Nat) : Prop := ∀ j, j < i → ∀ k, k < j → badP (xs.getD k ver0) (xs.getD j ver0) = false
theorem bad_false {a b : Ver} : badP a b = false ↔ (a.2.1 = 0 → b.2.1 = 0 ∧ a.1 ≠ b.1) ∧ (b.2.1 ≠ 0 → a.2.1 ≤ b.2.1) := by
  unfold badP
  rw [Bool.or_eq_false_iff, Bool.and_eq_false_iff, Bool.and_eq_false_iff, Bool.or_eq_false_iff]
  simp only [decide_eq_false_iff_not]
  constructor
  · rintro ⟨h1, h2⟩
    refine ⟨fun h => ?_, fun h => ?_⟩
    · rcases h1 with h1 | h1
      · exact absurd h h1
      · exact ⟨Classical.not_not.1 h1.1, h1.2⟩
    · rcases h2 with h2 | h2
      · exact absurd h h2
      · omega
  · rintro ⟨h1, h2⟩
    refine ⟨?_, ?_⟩
    · by_cases h : a.2.1 = 0
      · exact .inr ⟨Classical.not_not.2 (h1 h).1, (h1 h).2⟩
      · exact .inl h
    · by_cases h : b.2.1 = 0
      · exact .inl (Classical.not_not.2 h)
      · exact .inr (by have := h2 h; omega)
theorem ordered_iff {xs : List Ver} : ordered xs = true ↔ okP xs xs.length := by
  have hz := firstZ_at xs
  have hn := firstZ_not xs
  unfold ordered
  rw [decide_eq_true_iff, OrdB_iff]
  constructor
  · rintro ⟨h1, h2, h3⟩ j hj k hk
    have hmem : ∀ i, firstZ xs ≤ i → i < xs.length → (xs.getD i ver0).2.1 = 0 := fun i hi hl => (h2 _ (by
      rw [List.mem_iff_getElem]
      exact ⟨i - firstZ xs, by simp; omega, by simp [List.getD, hl]; congr 1; omega⟩)).1
    rw [bad_false]
    by_cases hjn : j < firstZ xs
    · have hm := OrdA_mono h1 (j - k) k (by omega)
      rw [show k + (j - k) = j by omega] at hm
      exact ⟨fun h => absurd h (hn k (by omega)).2, fun _ => hm⟩
    · have hj0 := hmem j (by omega) hj
      refine ⟨fun h => ⟨hj0, fun hc => ?_⟩, fun h => absurd hj0 h⟩
      have hkn : firstZ xs ≤ k := by
        rcases Nat.lt_or_ge k (firstZ xs) with h4 | h4
        · exact absurd h (hn k h4).2
        · exact h4
      rw [List.pairwise_iff_getElem] at h3
      have := h3 (k - firstZ xs) (j - firstZ xs) (by simp; omega) (by simp; omega) (by omega)
      simp only [List.getElem_drop] at this
      apply this
      have e1 : xs[firstZ xs + (k - firstZ xs)]'(by omega) = xs.getD k ver0 := by simp [List.getD, show k < xs.length by omega]; congr 1; omega
      have e2 : xs[firstZ xs + (j - firstZ xs)]'(by omega) = xs.getD j ver0 := by simp [List.getD, hj]; congr 1; omega
      rw [e1, e2]; exact hc
  · intro h
    have h' : ∀ j, j < xs.length → ∀ k, k < j → _ := fun j hj k hk => bad_false.1 (h j hj k hk)
    have hmem : ∀ i, firstZ xs ≤ i → i < xs.length → (xs.getD i ver0).2.1 = 0 := fun i hi hl => by
      rcases Nat.lt_or_ge (firstZ xs) i with h4 | h4
      · exact ((h' i hl (firstZ xs) h4).1 (hz.2 (by omega))).1
      · have : i = firstZ xs := by omega
        subst this; exact hz.2 hl
    refine ⟨fun j hj h1 => (h' j (by omega) (j - 1) (by omega)).2 (hn j hj).2, fun v hv => ⟨?_, by simp⟩, ?_⟩
    · rw [List.mem_iff_getElem] at hv
      obtain ⟨i, hi, rfl⟩ := hv
      simp at hi
      have := hmem (firstZ xs + i) (by omega) (by omega)
      simpa [List.getD, show firstZ xs + i < xs.length by omega] using this
    · rw [List.pairwise_iff_getElem]
      intro i j hi hj hij hc
      simp at hi hj
      simp only [List.getElem_drop] at hc
      have e1 : xs[firstZ xs + i]'(by omega) = xs.getD (firstZ xs + i) ver0 := by simp [List.getD, show firstZ xs + i < xs.length by omega]
      have e2 : xs[firstZ xs + j]'(by omega) = xs.getD (firstZ xs + j) ver0 := by simp [List.getD, show firstZ xs + j < xs.length by omega]
      rw [e1, e2] at hc
      exact ((h' (firstZ xs + j) (by omega) (firstZ xs + i) (by omega)).1 (hmem _ (by omega) (by omega))).2 hc
theorem verC_eq {v : Ver} : verC v = if 24 < v.2.2.2.length then 5 else if v.2.2.1 = true ∧ v.2.2.2 ≠ [] then 4 else if inB v.1 = true ∧ inB v.2.1 = true then 0 else 9 := rfl
theorem bad_ret {key : List UInt8} {xs : List Ver} {i : Nat} {c : Int} (hC : check (key, xs) = if firstBad xs = 0 then (if ordered xs = true then 0 else 12) else firstBad xs) (he : firstBad xs = firstBad (xs.drop i)) (hi : i < xs.length) (hv : verC (xs.getD i (0, 0, false, [])) = c) (h0 : ¬ c = 0) : c = check (key, xs) := by
  rw [firstBad_at hi, if_neg (by rw [hv]; exact h0)] at he
  rw [hC, he, hv, if_neg h0]
theorem good_step {xs : List Ver} {i : Nat} (he : firstBad xs = firstBad (xs.drop i)) (hi : i < xs.length) (hv : verC (xs.getD i (0, 0, false, [])) = 0) : firstBad xs = firstBad (xs.drop (i + 1)) := by
  rw [firstBad_at hi, if_pos hv] at he
  exact he
def sInR : PSpec := sIn
theorem fInR : FnOk Try.prog 162 := ⟨_, Try.func162, by decide, rfl⟩
theorem pInR : PSound Try.prog 162 sInR := by
  refine psound (T := tab) (S := (spOf [])) (keep := k162) (by kernel_rfl) tabOk spNil (by kernel_rfl) Try.func162 (by kernel_rfl) (by decide) fun xs hg hp => ?_
  obtain ⟨n, ⟨⟩⟩ := xs
  change Int at n
  show vfun tab _ k162 Try.f162 [.i .i64 n] [] _
  refine Ev.out ?_
  repeat' (first | ((with_reducible refine Ev.mk ?_); conv => whnf) | (with_reducible refine And.intro ?_ ?_) | (intro h))
  all_goals (try simp only [decide_eq_true_eq, decide_eq_false_iff_not, beq_iff_eq, bne_iff_ne, beq_eq_false_iff_ne, bne_eq_false_iff_eq, Int.toNat_natCast, ge_iff_le, gt_iff_lt, Bool.not_eq_true', Bool.not_eq_false', Int.not_lt, Int.not_le, ne_eq] at *)
  all_goals (try dsimp only [Ty.den, Ty.dflt, VerT] at *)
  all_goals (try simp only [eq4, ne4, eq3, ne3, eq2, ne2, Prod.eta, List.length_cons, List.length_nil, List.length_append, Nat.zero_add] at *)
  all_goals (try simp (disch := omega) only [wrap64] at *)
  all_goals
    refine Leaf.mk (ret1 (show _ = inB n from ?_))
    simp only [inB]
    first
    | (rw [decide_eq_false (p := 0 ≤ n ∧ n ≤ 1099511627776) (by omega)]; done)
    | (congr 1; simp only [eq_iff_iff]; omega)
theorem fSCheckR : FnOk Try.prog 120 := ⟨_, Try.func120, by decide, rfl⟩
theorem pSCheckR : PSound Try.prog 120 sSCheckR := by
  refine psound (T := tab) (S := (spOf [(162, sInR.spec (lsOf []))])) (keep := k120) (by kernel_rfl) tabOk (spCons (pOk pInR fInR (by decide) lsNil) spNil) (by kernel_rfl) Try.func120 (by kernel_rfl) (by decide) fun xs hg hp => ?_
  obtain ⟨⟨key, xs⟩, ⟨⟩⟩ := xs
  obtain ⟨⟨hk, hl, hx⟩, -⟩ := hg
  change List UInt8 at key
  change List Ver at xs
  change xs.length ≤ _ at hl
  have hl := len63 hl
  have hxv : ∀ i, i < xs.length → (xs.getD i ver0).2.2.2.length ≤ 9223372036854775807 := fun i hi => len63 (good_at (e := VerT) hx hi ver0).2.2.2
  clear hp
  show vfun tab _ k120 Try.f120 [.agg [.s key, .sl VerT xs]] [] _
  refine Ev.out ?_
  repeat' (first | ((with_reducible refine Ev.mk ?_); conv => whnf) | (with_reducible refine And.intro ?_ ?_) | (intro h))
  all_goals (try simp only [decide_eq_true_eq, decide_eq_false_iff_not, beq_iff_eq, bne_iff_ne, beq_eq_false_iff_ne, bne_eq_false_iff_eq, Int.toNat_natCast, ge_iff_le, gt_iff_lt, Bool.not_eq_true', Bool.not_eq_false', Int.not_lt, Int.not_le, ne_eq] at *)
  all_goals (try dsimp only [Ty.den, Ty.dflt, VerT, sVersion, sOrdered] at *)
  all_goals (try simp only [eq4, ne4, eq3, ne3, eq2, ne2, Prod.eta, List.length_cons, List.length_nil, List.length_append, Nat.zero_add] at *)
  all_goals (try simp (disch := omega) only [wrap64] at *)
  all_goals try first | exact leafDraw (by kernel_rfl) | exact Leaf.mk trivial | (refine Leaf.mk ?_; omega) | (refine Leaf.mk ?_; unfold maxLen; omega)
  · refine Leaf.mk (ret1 (show (5 : Int) = check (key, xs) from ?_))
    rw [check, if_pos (show 16 < key.length by omega)]
  · refine Leaf.mk (ret1 (show (7 : Int) = check (key, xs) from ?_))
    rw [check, if_neg (show ¬ 16 < key.length by omega), if_pos (show 8 < xs.length by omega)]
  have hC : check (key, xs) = if firstBad xs = 0 then (if ordered xs = true then 0 else 12) else firstBad xs := by
    rw [check, if_neg (show ¬ 16 < key.length by omega), if_neg (show ¬ 8 < xs.length by omega)]
  refine LoopVC.on (fun i : Nat => [(3, .i .i64 i)]) (fun _ => []) (fun i => i ≤ xs.length ∧ firstBad xs = firstBad (xs.drop i)) (fun i => xs.length - i) 0 rfl ⟨by omega, rfl⟩ ?_
  intro i ⟨hi, he⟩
  have hxi := hxv i
  dsimp only [ver0] at hxi
  repeat' (first | ((with_reducible refine Ev.mk ?_); conv => whnf) | (with_reducible refine And.intro ?_ ?_) | (intro h))
  all_goals (try simp only [decide_eq_true_eq, decide_eq_false_iff_not, beq_iff_eq, bne_iff_ne, beq_eq_false_iff_ne, bne_eq_false_iff_eq, Int.toNat_natCast, ge_iff_le, gt_iff_lt, Bool.not_eq_true', Bool.not_eq_false', Int.not_lt, Int.not_le, ne_eq] at *)
  all_goals (try dsimp only [Ty.den, Ty.dflt, VerT, sIn, sInR] at *)
  all_goals (try simp only [eq4, ne4, eq3, ne3, eq2, ne2, Prod.eta, List.length_cons, List.length_nil, List.length_append, Nat.zero_add] at *)
  all_goals (try simp (disch := omega) only [wrap64] at *)
  all_goals try first | exact leafDraw (by kernel_rfl) | exact Leaf.mk trivial | (refine Leaf.mk ?_; omega) | (refine Leaf.mk ?_; unfold maxLen; omega)
  · have hv : verC (xs.getD i (0, 0, false, [])) = 5 := by
      rw [verC_eq]
      repeat' split
      all_goals first | rfl | (exfalso; first | omega | simp_all)
    exact Leaf.mk (ret1 (bad_ret (c := 5) hC he (by omega) hv (by decide)))
  · have hv : verC (xs.getD i (0, 0, false, [])) = 4 := by
      rw [verC_eq]
      repeat' split
      all_goals first | rfl | (exfalso; first | omega | simp_all)
    exact Leaf.mk (ret1 (bad_ret (c := 4) hC he (by omega) hv (by decide)))
  · have hv : verC (xs.getD i (0, 0, false, [])) = 9 := by
      rw [verC_eq]
      repeat' split
      all_goals first | rfl | (exfalso; first | omega | simp_all)
    exact Leaf.mk (ret1 (bad_ret (c := 9) hC he (by omega) hv (by decide)))
  · have hv : verC (xs.getD i (0, 0, false, [])) = 9 := by
      rw [verC_eq]
      repeat' split
      all_goals first | rfl | (exfalso; first | omega | simp_all)
    exact Leaf.mk (ret1 (bad_ret (c := 9) hC he (by omega) hv (by decide)))
  · have hv : verC (xs.getD i (0, 0, false, [])) = 0 := by
      rw [verC_eq]
      repeat' split
      all_goals first | rfl | (exfalso; first | omega | simp_all)
    exact Leaf.mk ⟨i + 1, rfl, ⟨by omega, good_step he (by omega) hv⟩, by omega⟩
  · have hv : verC (xs.getD i (0, 0, false, [])) = 9 := by
      rw [verC_eq]
      repeat' split
      all_goals first | rfl | (exfalso; first | omega | simp_all)
    exact Leaf.mk (ret1 (bad_ret (c := 9) hC he (by omega) hv (by decide)))
  · have hv : verC (xs.getD i (0, 0, false, [])) = 9 := by
      rw [verC_eq]
      repeat' split
      all_goals first | rfl | (exfalso; first | omega | simp_all)
    exact Leaf.mk (ret1 (bad_ret (c := 9) hC he (by omega) hv (by decide)))
  · have hv : verC (xs.getD i (0, 0, false, [])) = 0 := by
      rw [verC_eq]
      repeat' split
      all_goals first | rfl | (exfalso; first | omega | simp_all)
    exact Leaf.mk ⟨i + 1, rfl, ⟨by omega, good_step he (by omega) hv⟩, by omega⟩
  rw [drop_end (by omega)] at he
  have hC2 : check (key, xs) = if ordered xs = true then 0 else 12 := by rw [hC, if_pos (show firstBad xs = 0 from he)]
  clear hxi hxv hx
  refine LoopVC.on (fun i : Nat => [(5, .i .i64 i)]) (fun _ => []) (fun i => i ≤ xs.length ∧ okP xs i) (fun i => xs.length - i) 0 rfl ⟨by omega, fun j hj => by omega⟩ ?_
  intro i ⟨hi, ho⟩
  repeat' (first | ((with_reducible refine Ev.mk ?_); conv => whnf) | (with_reducible refine And.intro ?_ ?_) | (intro h))
  all_goals (try simp only [decide_eq_true_eq, decide_eq_false_iff_not, beq_iff_eq, bne_iff_ne, beq_eq_false_iff_ne, bne_eq_false_iff_eq, Int.toNat_natCast, ge_iff_le, gt_iff_lt, Bool.not_eq_true', Bool.not_eq_false', Int.not_lt, Int.not_le, ne_eq] at *)
  all_goals (try dsimp only [Ty.den, Ty.dflt, VerT, sIn, sInR] at *)
  all_goals (try simp only [eq4, ne4, eq3, ne3, eq2, ne2, Prod.eta, List.length_cons, List.length_nil, List.length_append, Nat.zero_add] at *)
  all_goals (try simp (disch := omega) only [wrap64] at *)
  all_goals try first | exact leafDraw (by kernel_rfl) | exact Leaf.mk trivial | (refine Leaf.mk ?_; omega) | (refine Leaf.mk ?_; unfold maxLen; omega)
  · refine LoopVC.on (fun k : Nat => [(6, .i .i64 k)]) (fun _ => []) (fun k => k ≤ i ∧ ∀ j, j < k → badP (xs.getD j ver0) (xs.getD i ver0) = false) (fun k => i - k) 0 rfl ⟨by omega, fun j hj => by omega⟩ ?_
    intro k ⟨hk, hb⟩
    repeat' (first | ((with_reducible refine Ev.mk ?_); conv => whnf) | (with_reducible refine And.intro ?_ ?_) | (intro h))
    all_goals (try simp only [decide_eq_true_eq, decide_eq_false_iff_not, beq_iff_eq, bne_iff_ne, beq_eq_false_iff_ne, bne_eq_false_iff_eq, Int.toNat_natCast, ge_iff_le, gt_iff_lt, Bool.not_eq_true', Bool.not_eq_false', Int.not_lt, Int.not_le, ne_eq] at *)
    all_goals (try dsimp only [Ty.den, Ty.dflt, VerT, sIn, sInR] at *)
    all_goals (try simp only [eq4, ne4, eq3, ne3, eq2, ne2, Prod.eta, List.length_cons, List.length_nil, List.length_append, Nat.zero_add] at *)
    all_goals (try simp (disch := omega) only [wrap64] at *)
    all_goals try first | exact leafDraw (by kernel_rfl) | exact Leaf.mk trivial | (refine Leaf.mk ?_; omega) | (refine Leaf.mk ?_; unfold maxLen; omega)
    all_goals first
      | (refine Leaf.mk (ret1 (show 12 = check (key, xs) from ?_))
         rw [hC2, if_neg]
         intro hc
         have hx := bad_false.1 (ordered_iff.1 hc i (by omega) k (by omega))
         dsimp only [ver0] at hx
         first
         | (have := (hx.1 ‹_›).1; contradiction)
         | exact (hx.1 ‹_›).2 ‹_›
         | (have := hx.2 ‹_›; omega))
      | (refine Leaf.mk ⟨k + 1, rfl, ⟨by omega, fun j hj => ?_⟩, by omega⟩
         rcases Nat.lt_or_ge j k with hjk | hjk
         · exact hb j hjk
         · obtain rfl : j = k := by omega
           rw [bad_false]
           dsimp only [ver0]
           refine ⟨fun hh => ?_, fun hh => ?_⟩
           all_goals first
             | omega
             | contradiction
             | exact ⟨by omega, ‹_›⟩)
      | (refine Leaf.mk ⟨i + 1, rfl, ⟨by omega, fun j hj => ?_⟩, by omega⟩
         rcases Nat.lt_or_ge j i with hji | hji
         · exact ho j hji
         · obtain rfl : j = i := by omega
           exact fun m hm => hb m (by omega))
  · refine Leaf.mk (ret1 (show 0 = check (key, xs) from ?_))
    obtain rfl : i = xs.length := by omega
    rw [hC2, if_pos (ordered_iff.2 ho)]
def sSPutR : PSpec := sSPut
theorem fSPutR : FnOk Try.prog 48 := ⟨_, Try.func48, by decide, rfl⟩
theorem pSPutR : PSound Try.prog 48 sSPutR := by
  refine psound (T := tab) (S := (spOf [(120, sSCheckR.spec (lsOf [])), (97, sPutTextR.spec (lsOf [])), (121, sPutSmallR.spec (lsOf []))])) (keep := k48) (by kernel_rfl) tabOk (spCons (pOk pSCheckR fSCheckR (by decide) lsNil) (spCons (pOk pPutTextR fPutTextR (by decide) lsNil) (spCons (pOk pPutSmallR fPutSmallR (by decide) lsNil) spNil))) (by kernel_rfl) Try.func48 (by kernel_rfl) (by decide) fun xs hg hp => ?_
  obtain ⟨⟨key, xs⟩, ⟨⟩⟩ := xs
  change List UInt8 at key
  change List Ver at xs
  clear hp hg
  show vfun tab _ k48 Try.f48 [.agg [.s key, .sl VerT xs]] [] _
  refine Ev.out ?_
  repeat' (first | ((with_reducible refine Ev.mk ?_); conv => whnf) | (with_reducible refine And.intro ?_ ?_) | (intro h))
  all_goals (try simp only [decide_eq_true_eq, decide_eq_false_iff_not, beq_iff_eq, bne_iff_ne, beq_eq_false_iff_ne, bne_eq_false_iff_eq, Int.toNat_natCast, ge_iff_le, gt_iff_lt, Bool.not_eq_true', Bool.not_eq_false', Int.not_lt, Int.not_le, ne_eq] at *)
  all_goals (try dsimp only [Ty.den, Ty.dflt, VerT, sCheck, sSCheckR, sPutText, sPutSmall, sPutTextR, sPutSmallR] at *)
  all_goals (try simp only [eq4, ne4, eq3, ne3, eq2, ne2, Prod.eta, List.length_cons, List.length_nil, List.length_append, Nat.zero_add] at *)
  all_goals (try simp (disch := omega) only [wrap64] at *)
  all_goals try first | exact leafDraw (by kernel_rfl) | exact Leaf.mk trivial | (refine Leaf.mk ?_; omega) | (refine Leaf.mk ?_; unfold maxLen; omega)
  · exact Leaf.mk (retB (u := ([], check (key, xs))) (if_neg h).symm)
  all_goals
    have ok := check_ok.1 ‹check (key, xs) = 0›
    have hk := ok.key
    have hl := ok.len
    dsimp only at hk hl
    have h1 := putText_len key
    have h2 := putSmall_len xs.length
  · exact Leaf.mk (show key.length ≤ 100000 by omega)
  all_goals rw [wrapu (by omega)]
  · exact Leaf.mk (by omega)
  · exact Leaf.mk (by unfold maxLen; omega)
  have hS : putR11 (key, xs) = (putS (key, xs), 0) := if_pos ‹check (key, xs) = 0›
  have hva : ∀ i, i < xs.length → VerOk (xs.getD i ver0) := fun i hi => ok.all _ (getD_mem ver0 hi)
  refine LoopVC.on (fun i : Nat => [(6, .i .i64 i)]) (fun i => [(1, .arr 5 (.int .u8) (putText key ++ putSmall xs.length ++ (xs.take i).flatMap putV))]) (fun i => i ≤ xs.length) (fun i => xs.length - i) 0 (by simp only [List.take_zero, List.flatMap_nil, List.append_nil]; rfl) (by omega) ?_
  intro i hi
  have hfl := flat_len putV 69 (xs.take i) (fun v hv => putV_len (ok.all v (List.mem_of_mem_take hv)))
  have htl : (xs.take i).length * 69 ≤ 552 := by rw [List.length_take]; omega
  repeat' (first | ((with_reducible refine Ev.mk ?_); conv => whnf) | (with_reducible refine And.intro ?_ ?_) | (intro h))
  all_goals (try simp only [decide_eq_true_eq, decide_eq_false_iff_not, beq_iff_eq, bne_iff_ne, beq_eq_false_iff_ne, bne_eq_false_iff_eq, Int.toNat_natCast, ge_iff_le, gt_iff_lt, Bool.not_eq_true', Bool.not_eq_false', Int.not_lt, Int.not_le, ne_eq] at *)
  all_goals (try dsimp only [Ty.den, Ty.dflt, VerT, sPutText, sPutSmall, sPutTextR, sPutSmallR] at *)
  all_goals (try simp only [eq4, ne4, eq3, ne3, eq2, ne2, Prod.eta, List.length_cons, List.length_nil, List.length_append, Nat.zero_add] at *)
  all_goals (try simp (disch := omega) only [wrap64] at *)
  all_goals try first | exact leafDraw (by kernel_rfl) | exact Leaf.mk trivial | (refine Leaf.mk ?_; omega) | (refine Leaf.mk ?_; unfold maxLen; omega)
  · have hv := hva i (by omega)
    have hvl := putV_len hv
    simp only [putV, List.length_append, List.length_cons] at hvl
    rw [wrapu (n := (xs.getD i (0, 0, false, [])).1) hv.txn]
    dsimp only [ver0] at hvl
    exact Leaf.mk (by omega)
  · have hv := hva i (by omega)
    have hvl := putV_len hv
    simp only [putV, List.length_append, List.length_cons] at hvl
    rw [wrapu (n := (xs.getD i (0, 0, false, [])).1) hv.txn]
    dsimp only [ver0] at hvl
    exact Leaf.mk (by unfold maxLen; omega)
  all_goals try
    have hv := hva i (by omega)
    have hvl := putV_len hv
    simp only [putV, List.length_append, List.length_cons] at hvl
    rw [wrapu (n := (xs.getD i (0, 0, false, [])).1) hv.txn, wrapu (n := (xs.getD i (0, 0, false, [])).2.1) hv.ts]
    dsimp only [ver0] at hvl
  all_goals try first
    | (refine Leaf.mk ?_; omega)
    | (refine Leaf.mk ?_; unfold maxLen; omega)
    | exact Leaf.mk (show (xs.getD i ver0).2.2.2.length ≤ 100000 by have := (hva i (by omega)).val; omega)
  all_goals try
    refine Leaf.mk ⟨i + 1, ?_, by omega, by omega⟩
    rw [flatMap_at ver0 (by omega)]
    have hv : putV (xs.getD i ver0) = putSmall (xs.getD i (0, 0, false, [])).1 ++ (putSmall (xs.getD i (0, 0, false, [])).2.1 ++ ((if (xs.getD i (0, 0, false, [])).2.2.1 = true then 1 else 0) :: putText (xs.getD i (0, 0, false, [])).2.2.2)) := rfl
    first
    | (rw [if_pos (by assumption)] at hv; rw [hv]; simp only [List.append_assoc, List.cons_append, List.nil_append]; rfl)
    | (rw [if_neg (by rw [Bool.not_eq_true]; assumption)] at hv; rw [hv]; simp only [List.append_assoc, List.cons_append, List.nil_append]; rfl)
  · rw [List.take_of_length_le (by omega)]
    refine Leaf.mk (retB (u := (putText key ++ putSmall xs.length ++ xs.flatMap putV, 0)) ?_)
    show _ = putR11 (key, xs)
    rw [hS, putS, List.append_assoc]
end Go.Proofs.Ytlfehkoklgmjjaa
