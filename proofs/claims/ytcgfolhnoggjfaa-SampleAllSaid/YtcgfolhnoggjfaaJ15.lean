import Derived.Test.YtcgfolhnoggjfaaJ12



set_option linter.unusedVariables false
set_option linter.unusedSimpArgs false
set_option maxRecDepth 8000
set_option maxHeartbeats 4000000
namespace Go.Proofs.Ytcgfolhnoggjfaa
open Go.Eng
abbrev N2T : Ty := .pair (.int .u8) (.int .u8)
def sumK (c : List Cnt) : Int := (c.map (·.2.1)).sum
def sumB (c : List Cnt) : Int := (c.map (·.2.2)).sum
def sumsF (c : List Cnt) (k b : Int) : Bool := decide (w64 (k - sumK c) = 0 ∧ w64 (b - sumB c) = 0)
theorem w64_sub (a b : Int) : w64 (w64 a - b) = w64 (a - b) := by
  unfold w64; simp only [IntKind.wrap_i64]; omega
theorem sumK_at {c : List Cnt} {i : Nat} (h : i < c.length) : sumK (c.take (i + 1)) = sumK (c.take i) + (c.getD i cnt0).2.1 := by
  rw [sumK, take_at cnt0 h, List.map_append, List.sum_append]; simp [sumK]
theorem sumB_at {c : List Cnt} {i : Nat} (h : i < c.length) : sumB (c.take (i + 1)) = sumB (c.take i) + (c.getD i cnt0).2.2 := by
  rw [sumB, take_at cnt0 h, List.map_append, List.sum_append]; simp [sumB]
def sSums : PSpec := ⟨[.d CntsT, .d (.int .i64), .d (.int .i64)], [⟨false, [.d .bool]⟩], fun x => List.length x.1 ≤ 100000, fun x => ((sumsF x.1 x.2.1 x.2.2.1, ()), ())⟩
theorem fSums : FnOk Try.prog 34 := ⟨_, Try.func34, by decide, rfl⟩
theorem pSums : PSound Try.prog 34 sSums := by
  refine psound (T := tab) (S := (spOf [])) (keep := k34) (by kernel_rfl) tabOk spNil (by kernel_rfl) Try.func34 (by kernel_rfl) (by decide) fun xs hg hp => ?_
  obtain ⟨c, k, b, ⟨⟩⟩ := xs
  obtain ⟨-, hk, hb, -⟩ := hg
  change List Cnt at c
  change Int at k b
  have hk := bd64 hk
  have hb := bd64 hb
  change c.length ≤ 100000 at hp
  show vfun tab _ k34 Try.f34 [.sl CntT c, .i .i64 k, .i .i64 b] [] _
  refine Ev.out ?_
  repeat' (first | ((with_reducible refine Ev.mk ?_); conv => whnf) | (with_reducible refine And.intro ?_ ?_) | (intro h))
  all_goals (try simp only [decide_eq_true_eq, decide_eq_false_iff_not, beq_iff_eq, bne_iff_ne, beq_eq_false_iff_ne, bne_eq_false_iff_eq, Int.toNat_natCast, ge_iff_le, gt_iff_lt, Bool.not_eq_true', Bool.not_eq_false', Int.not_lt, Int.not_le, ne_eq] at *)
  all_goals (try dsimp only [Ty.den, Ty.dflt, CntT] at *)
  all_goals (try simp only [eq4, ne4, eq3, ne3, eq2, ne2, Prod.eta, List.length_cons, List.length_nil, List.length_append, Nat.zero_add] at *)
  all_goals (try simp (disch := omega) only [wrap64] at *)
  all_goals try first | exact leafDraw (by kernel_rfl) | exact Leaf.mk trivial | (refine Leaf.mk ?_; omega) | (refine Leaf.mk ?_; unfold maxLen; omega)
  refine LoopVC.on (fun i : Nat => [(1, .i .i64 (w64 (k - sumK (c.take i)))), (2, .i .i64 (w64 (b - sumB (c.take i)))), (7, .i .i64 i)]) (fun _ => []) (fun i => i ≤ c.length) (fun i => c.length - i) 0 ?_ (by omega) ?_
  · rw [show w64 (k - sumK (c.take 0)) = k from ?_, show w64 (b - sumB (c.take 0)) = b from ?_]
    · rfl
    · rw [List.take_zero, show b - sumB [] = b by simp [sumB]]; exact wrap64 (by omega)
    · rw [List.take_zero, show k - sumK [] = k by simp [sumK]]; exact wrap64 (by omega)
  intro i hi
  have h1 : ∀ h : i < c.length, w64 (w64 (k - sumK (c.take i)) - (c.getD i cnt0).2.1) = w64 (k - sumK (c.take (i + 1))) := fun h => by
    rw [w64_sub, sumK_at h]; congr 1; omega
  have h2 : ∀ h : i < c.length, w64 (w64 (b - sumB (c.take i)) - (c.getD i cnt0).2.2) = w64 (b - sumB (c.take (i + 1))) := fun h => by
    rw [w64_sub, sumB_at h]; congr 1; omega
  repeat' (first | ((with_reducible refine Ev.mk ?_); conv => whnf) | (with_reducible refine And.intro ?_ ?_) | (intro h))
  all_goals (try simp only [decide_eq_true_eq, decide_eq_false_iff_not, beq_iff_eq, bne_iff_ne, beq_eq_false_iff_ne, bne_eq_false_iff_eq, Int.toNat_natCast, ge_iff_le, gt_iff_lt, Bool.not_eq_true', Bool.not_eq_false', Int.not_lt, Int.not_le, ne_eq] at *)
  all_goals (try dsimp only [Ty.den, Ty.dflt, CntT] at *)
  all_goals (try simp only [eq4, ne4, eq3, ne3, eq2, ne2, Prod.eta, List.length_cons, List.length_nil, List.length_append, Nat.zero_add] at *)
  all_goals (try simp (disch := omega) only [wrap64] at *)
  all_goals try first | exact leafDraw (by kernel_rfl) | exact Leaf.mk trivial | (refine Leaf.mk ?_; omega) | (refine Leaf.mk ?_; unfold maxLen; omega)
  all_goals first
    | (refine Leaf.mk ⟨i + 1, ?_, by omega, by omega⟩
       rw [← h1 (by omega), ← h2 (by omega)]; rfl)
    | (refine Leaf.mk (ret1 (show _ = sumsF c k b from ?_))
       rw [sumsF]
       rw [take_all (show c.length ≤ i by omega)] at *
       first
       | (rw [Bool.eq_iff_iff, decide_eq_true_eq, beq_iff_eq]; exact ⟨fun h2 => ⟨h, h2⟩, fun h2 => h2.2⟩)
       | (rw [eq_comm, decide_eq_false_iff_not]; exact fun hc => h hc.1))
    | (trace_state; sorry)
/-! Merging loses none. -/
theorem w64_cong {a b : Int} (h : ∃ k, a = b + k * 18446744073709551616) : w64 a = w64 b := by
  obtain ⟨k, rfl⟩ := h
  unfold w64; simp only [IntKind.wrap_i64]; omega
def Cg (a b : Int) : Prop := ∃ k : Int, a = b + k * 18446744073709551616
theorem cg_w (a : Int) : Cg (w64 a) a := by
  unfold Cg w64; rw [IntKind.wrap_i64]
  exact ⟨-((a + 9223372036854775808) / 18446744073709551616), by omega⟩
theorem Cg.trans {a b c : Int} (h : Cg a b) (k : Cg b c) : Cg a c := by
  obtain ⟨x, rfl⟩ := h; obtain ⟨y, rfl⟩ := k
  exact ⟨x + y, by rw [Int.add_mul]; omega⟩
theorem Cg.refl (a : Int) : Cg a a := ⟨0, by omega⟩
theorem Cg.add {a b c d : Int} (h : Cg a b) (k : Cg c d) : Cg (a + c) (b + d) := by
  obtain ⟨x, rfl⟩ := h; obtain ⟨y, rfl⟩ := k
  exact ⟨x + y, by rw [Int.add_mul]; omega⟩
theorem sumK_app (a b : List Cnt) : sumK (a ++ b) = sumK a + sumK b := by simp [sumK, List.sum_append]
theorem sumB_app (a b : List Cnt) : sumB (a ++ b) = sumB a + sumB b := by simp [sumB, List.sum_append]
theorem sumK_cons (x : Cnt) (b : List Cnt) : sumK (x :: b) = x.2.1 + sumK b := by simp [sumK]
theorem sumB_cons (x : Cnt) (b : List Cnt) : sumB (x :: b) = x.2.2 + sumB b := by simp [sumB]
theorem split_two {c : List Cnt} {p : Nat} (h : p + 1 < c.length) : c = c.take p ++ c.getD p cnt0 :: c.getD (p + 1) cnt0 :: c.drop (p + 2) := by
  conv => lhs; rw [← List.take_append_drop p c, drop_at cnt0 (show p < c.length by omega), drop_at cnt0 h]
theorem merge_sum (c : List Cnt) (at' : Int) : Cg (sumK (mergeF c at')) (sumK c) ∧ Cg (sumB (mergeF c at')) (sumB c) := by
  unfold mergeF
  split
  · rename_i h
    obtain ⟨p, hp⟩ := Int.eq_ofNat_of_zero_le h.1
    subst hp
    rw [Int.toNat_natCast]
    have e := split_two (c := c) (p := p) (by omega)
    have eK := congrArg sumK e
    have eB := congrArg sumB e
    simp only [sumK_app, sumB_app, sumK_cons, sumB_cons] at eK eB ⊢
    have h1 := cg_w ((c.getD p cnt0).2.1 + (c.getD (p + 1) cnt0).2.1)
    have h2 := cg_w ((c.getD p cnt0).2.2 + (c.getD (p + 1) cnt0).2.2)
    constructor
    · rw [eK]
      have := (Cg.refl (sumK (c.take p))).add (h1.add (Cg.refl (sumK (c.drop (p + 2)))))
      rw [← Int.add_assoc (c.getD p cnt0).2.1]; exact this
    · rw [eB]
      have := (Cg.refl (sumB (c.take p))).add (h2.add (Cg.refl (sumB (c.drop (p + 2)))))
      rw [← Int.add_assoc (c.getD p cnt0).2.2]; exact this
  · exact ⟨Cg.refl _, Cg.refl _⟩
theorem levelN_sum : ∀ (f : Nat) (c : List Cnt) (most : Int), Cg (sumK (levelN f c most)) (sumK c) ∧ Cg (sumB (levelN f c most)) (sumB c)
  | 0, c, _ => ⟨Cg.refl _, Cg.refl _⟩
  | f + 1, c, most => by
    rw [levelN]
    split
    · split
      · exact ⟨Cg.refl _, Cg.refl _⟩
      · have ih := levelN_sum f (mergeF c (bestN c (c.length - 2) : Nat)) most
        have hm := merge_sum c (bestN c (c.length - 2) : Nat)
        exact ⟨ih.1.trans hm.1, ih.2.trans hm.2⟩
    · exact ⟨Cg.refl _, Cg.refl _⟩
theorem level_sum (c : List Cnt) (most : Int) : Cg (sumK (levelF c most)) (sumK c) ∧ Cg (sumB (levelF c most)) (sumB c) := levelN_sum _ _ _
theorem bestN_min (c : List Cnt) : ∀ n i, i ≤ n → ps c (bestN c n) ≤ ps c i
  | 0, i, h => by rw [show i = 0 by omega]; exact Int.le_refl _
  | n + 1, i, h => by
    rw [bestN]
    by_cases hi : i ≤ n
    · have := bestN_min c n i hi
      split <;> omega
    · rw [show i = n + 1 by omega]
      split <;> omega
/-- What a Level leaves. -/
theorem level_end' : ∀ (f : Nat) (c : List Cnt) (most : Int), c.length ≤ f → 1 ≤ c.length → 1 ≤ (levelN f c most).length ∧ (levelN f c most).length ≤ c.length ∧ ∀ i, i + 1 < (levelN f c most).length → most < ps (levelN f c most) i
  | 0, c, most, h, h1 => by omega
  | f + 1, c, most, h, h1 => by
    rw [levelN]
    split
    · rename_i hl
      split
      · rename_i hm
        exact ⟨h1, Nat.le_refl _, fun i hi => by have := bestN_min c (c.length - 2) i (by omega); omega⟩
      · have hs := merge_shrink hl
        have ih := level_end' f (mergeF c (bestN c (c.length - 2) : Nat)) most (by omega) (by omega)
        exact ⟨ih.1, by omega, ih.2.2⟩
    · exact ⟨h1, Nat.le_refl _, fun i hi => by omega⟩
theorem level_left {c : List Cnt} {most : Int} (h : 1 ≤ c.length) : 1 ≤ (levelF c most).length ∧ (levelF c most).length ≤ c.length ∧ ∀ i, i + 1 < (levelF c most).length → most < ps (levelF c most) i := level_end' _ _ _ (Nat.le_refl _) h
theorem merge_len (c : List Cnt) (at' : Int) : c.length - 1 ≤ (mergeF c at').length := by
  unfold mergeF
  split
  · simp only [List.length_append, List.length_cons, List.length_take, List.length_drop]; omega
  · omega
def bytesF (l : List Pr) : Int := (l.map fun p => ((p.1.length : Int) + (p.2.length : Int))).sum
theorem bytesF_at {l : List Pr} {i : Nat} (h : i < l.length) : bytesF (l.take (i + 1)) = bytesF (l.take i) + (((l.getD i ([], [])).1.length : Int) + ((l.getD i ([], [])).2.length : Int)) := by
  rw [bytesF, take_at ([], []) h, List.map_append, List.sum_append]; simp [bytesF]
theorem sum_set {c : List Cnt} {k : Nat} (h : k < c.length) (y : Cnt) : sumK (c.set k y) + (c.getD k cnt0).2.1 = sumK c + y.2.1 ∧ sumB (c.set k y) + (c.getD k cnt0).2.2 = sumB c + y.2.2 := by
  have e := congrArg sumK (List.take_append_drop k c)
  have e' := congrArg sumB (List.take_append_drop k c)
  rw [List.set_eq_take_append_cons_drop, if_pos h]
  rw [drop_at cnt0 h] at e e'
  simp only [sumK_app, sumB_app, sumK_cons, sumB_cons] at *
  omega
theorem counts_sum (pv : List Str) (l : List Pr) : ∀ j, j ≤ l.length → Cg (sumK (countsF pv (l.take j))) (j : Nat) ∧ Cg (sumB (countsF pv (l.take j))) (bytesF (l.take j))
  | 0, _ => by
    rw [List.take_zero, countsF_nil]
    have z : ∀ (xs : List Nat), sumK (xs.map fun i => (loAt pv i, (0 : Int), (0 : Int))) = 0 ∧ sumB (xs.map fun i => (loAt pv i, (0 : Int), (0 : Int))) = 0 := by
      intro xs
      induction xs with
      | nil => exact ⟨rfl, rfl⟩
      | cons x r ih => rw [List.map_cons, sumK_cons, sumB_cons, ih.1, ih.2]; exact ⟨rfl, rfl⟩
    rw [(z _).1, (z _).2]
    exact ⟨⟨0, by omega⟩, ⟨0, by simp [bytesF]⟩⟩
  | j + 1, h => by
    have ih := counts_sum pv l j (by omega)
    rw [countsF_at pv (show j < l.length by omega), bytesF_at (show j < l.length by omega)]
    have hp := placeF_le pv (l.getD j ([], [])).1
    have hs := sum_set (c := countsF pv (l.take j)) (k := placeF pv (l.getD j ([], [])).1) (by rw [countsF_len]; omega)
    have hs := hs (addC ((countsF pv (l.take j)).getD (placeF pv (l.getD j ([], [])).1) cnt0) ([], 1, w64 (((l.getD j ([], [])).1.length : Int) + ((l.getD j ([], [])).2.length : Int))))
    generalize (countsF pv (l.take j)).set _ _ = C at *
    generalize (countsF pv (l.take j)).getD _ _ = g at *
    dsimp only [addC] at hs
    obtain ⟨x, hx⟩ := cg_w (g.2.1 + 1)
    obtain ⟨x2, hx2⟩ := cg_w (g.2.2 + w64 (((l.getD j ([], [])).1.length : Int) + ((l.getD j ([], [])).2.length : Int)))
    obtain ⟨x3, hx3⟩ := cg_w (((l.getD j ([], [])).1.length : Int) + ((l.getD j ([], [])).2.length : Int))
    obtain ⟨⟨y, hy⟩, ⟨y2, hy2⟩⟩ := ih
    refine ⟨⟨x + y, by omega⟩, ⟨x2 + x3 + y2, by omega⟩⟩
theorem sums_ok {c d : List Cnt} {k b : Int} (h : Cg (sumK c) k ∧ Cg (sumB c) b) (h2 : Cg (sumK d) (sumK c) ∧ Cg (sumB d) (sumB c)) : sumsF d k (w64 b) = true := by
  have h3 := h2.1.trans h.1
  have h4 := h2.2.trans h.2
  obtain ⟨x, hx⟩ := h3
  obtain ⟨y, hy⟩ := h4
  refine decide_eq_true ⟨?_, ?_⟩
  · unfold w64; rw [IntKind.wrap_i64]; omega
  · rw [w64_sub]; unfold w64; rw [IntKind.wrap_i64]; omega
def sSampleAll : PSpec := lawSpec [StrsT, .slice PairT, N2T]
theorem fSampleAll : FnOk Try.prog 6 := ⟨_, Try.func6, by decide, rfl⟩
theorem pSampleAll : PSound Try.prog 6 sSampleAll := by
  refine psound (T := tab) (S := (spOf [(13, sAwake33.spec (lsOf [])), (26, sCounts.spec (lsOf [])), (30, sMerge.spec (lsOf [])), (32, sLevel.spec (lsOf [])), (34, sSums.spec (lsOf []))])) (keep := k6) (by kernel_rfl) tabOk (spCons (pOk pAwake33 fAwake33 (by decide) lsNil) (spCons (pOk pCounts fCounts (by decide) lsNil) (spCons (pOk pMerge fMerge (by decide) lsNil) (spCons (pOk pLevel fLevel (by decide) lsNil) (spCons (pOk pSums fSums (by decide) lsNil) spNil))))) (by kernel_rfl) Try.func6 (by kernel_rfl) (by decide) fun xs hg hp => ?_
  obtain ⟨pv, l, ⟨n0, n1⟩, ⟨⟩⟩ := xs
  obtain ⟨-, -, ⟨hn0, hn1⟩, -⟩ := hg
  have hn0 := bdu8 hn0
  have hn1 := bdu8 hn1
  change List Str at pv
  change List Pr at l
  change Int at n0 n1
  have hn0 : 0 ≤ n0 ∧ n0 ≤ 255 := hn0
  have hn1 : 0 ≤ n1 ∧ n1 ≤ 255 := hn1
  have ht0 := Int.tmod_nonneg 20 hn0.1
  have ht1 := Int.tmod_lt_of_pos n0 (show (0 : Int) < 20 by omega)
  clear hp
  show vfun tab _ k6 Try.f6 [.sl .str pv, .sl PairT l, .agg [.i .u8 n0, .i .u8 n1]] [] _
  refine Ev.out ?_
  repeat' (first | ((with_reducible refine Ev.mk ?_); conv => whnf) | (with_reducible refine And.intro ?_ ?_) | (intro h))
  all_goals (try simp only [decide_eq_true_eq, decide_eq_false_iff_not, beq_iff_eq, bne_iff_ne, beq_eq_false_iff_ne, bne_eq_false_iff_eq, Int.toNat_natCast, ge_iff_le, gt_iff_lt, Bool.not_eq_true', Bool.not_eq_false', Int.not_lt, Int.not_le, ne_eq] at *)
  all_goals (try dsimp only [Ty.den, Ty.dflt, CntT] at *)
  all_goals (try simp only [eq4, ne4, eq3, ne3, eq2, ne2, Prod.eta, List.length_cons, List.length_nil, List.length_append, Nat.zero_add] at *)
  all_goals (try simp (disch := omega) only [wrap64] at *)
  all_goals try first | exact leafDraw (by kernel_rfl) | exact Leaf.mk trivial | (refine Leaf.mk ?_; omega) | (refine Leaf.mk ?_; unfold maxLen; omega)
  · exact Leaf.mk rfl
  · exact Leaf.mk rfl
  refine LoopVC.on (fun i : Nat => [(7, .i .i64 (w64 (bytesF (l.take i)))), (8, .i .i64 i)]) (fun _ => []) (fun i => i ≤ l.length) (fun i => l.length - i) 0 rfl (by omega) ?_
  intro i hi
  have h1 : ∀ h : i < l.length, w64 (w64 (bytesF (l.take i)) + w64 (((l.getD i ([], [])).1.length : Int) + ((l.getD i ([], [])).2.length : Int))) = w64 (bytesF (l.take (i + 1))) := fun h => by
    rw [w64_add, w64_add2, bytesF_at h]
  repeat' (first | ((with_reducible refine Ev.mk ?_); conv => whnf) | (with_reducible refine And.intro ?_ ?_) | (intro h))
  all_goals (try simp only [decide_eq_true_eq, decide_eq_false_iff_not, beq_iff_eq, bne_iff_ne, beq_eq_false_iff_ne, bne_eq_false_iff_eq, Int.toNat_natCast, ge_iff_le, gt_iff_lt, Bool.not_eq_true', Bool.not_eq_false', Int.not_lt, Int.not_le, ne_eq] at *)
  all_goals (try dsimp only [Ty.den, Ty.dflt, CntT] at *)
  all_goals (try simp only [eq4, ne4, eq3, ne3, eq2, ne2, Prod.eta, List.length_cons, List.length_nil, List.length_append, Nat.zero_add] at *)
  all_goals (try simp (disch := omega) only [wrap64] at *)
  all_goals try first | exact leafDraw (by kernel_rfl) | exact Leaf.mk trivial | (refine Leaf.mk ?_; omega) | (refine Leaf.mk ?_; unfold maxLen; omega)
  all_goals try
    refine Leaf.mk ⟨i + 1, ?_, by omega, by omega⟩
    rw [← h1 (by omega)]; rfl
  all_goals
    have hil : l.take i = l := take_all (by omega)
    have hcs := counts_sum pv l i hi
    rw [hil] at hcs
    rw [show ((i : Nat) : Int) = ((l.length : Nat) : Int) by omega] at hcs
    have hcl := countsF_len pv l
    have hml := fun a => mergeF_len (countsF pv l) a
    have hml2 := fun a => merge_len (countsF pv l) a
    have hms := fun a => merge_sum (countsF pv l) a
    have hls := level_sum (countsF pv l) (n1)
    have hll := level_left (c := countsF pv l) (most := n1) (by omega)
    try rw [hil]
    try rw [show (sCounts.fn (pv, l, ())).1.1 = countsF pv l from rfl] at *
    generalize countsF pv l = C at *
    try rw [show (sMerge.fn (C, n0.tmod 20, ())).1.1 = mergeF C (n0.tmod 20) from rfl] at *
    try rw [show (sLevel.fn (C, n1, ())).1.1 = levelF C (n1) from rfl] at *
    have hml := hml (n0.tmod 20)
    have hml2 := hml2 (n0.tmod 20)
    have hms := hms (n0.tmod 20)
    generalize mergeF C (n0.tmod 20) = M at *
    generalize levelF C (n1) = W at *
  all_goals try first
    | exact Leaf.mk (show pv.length ≤ 100000 ∧ l.length ≤ 100000 by omega)
    | exact Leaf.mk (show C.length ≤ 100000 by omega)
    | (refine Leaf.mk (show inK _ _ = true from ?_); simp only [inK, Bool.and_eq_true, decide_eq_true_eq]; omega)
    | (exfalso; omega)
    | (exfalso; rw [wrap64 (by omega)] at h; omega)
  have hps : ∀ k, k + 1 < W.length → n1 < w64 ((W.getD k cnt0).2.1 + (W.getD (k + 1) cnt0).2.1) := hll.2.2
  have hWl := hll.2.1
  have q1 := sums_ok hcs ⟨Cg.refl _, Cg.refl _⟩
  have q2 := sums_ok hcs hms
  have q3 := sums_ok hcs hls
  refine LoopVC.on (fun j : Nat => [(12, .i .i64 j)]) (fun _ => []) (fun j => 1 ≤ j ∧ j ≤ W.length) (fun j => W.length - j) 1 ?_ ⟨Nat.le_refl _, hll.1⟩ ?_
  · rfl
  intro j ⟨hj1, hj⟩
  repeat' (first | ((with_reducible refine Ev.mk ?_); conv => whnf) | (with_reducible refine And.intro ?_ ?_) | (intro h))
  all_goals (try simp only [decide_eq_true_eq, decide_eq_false_iff_not, beq_iff_eq, bne_iff_ne, beq_eq_false_iff_ne, bne_eq_false_iff_eq, Int.toNat_natCast, ge_iff_le, gt_iff_lt, Bool.not_eq_true', Bool.not_eq_false', Int.not_lt, Int.not_le, ne_eq] at *)
  all_goals (try dsimp only [Ty.den, Ty.dflt, CntT] at *)
  all_goals (try simp only [eq4, ne4, eq3, ne3, eq2, ne2, Prod.eta, List.length_cons, List.length_nil, List.length_append, Nat.zero_add] at *)
  all_goals (try simp (disch := omega) only [wrap64] at *)
  all_goals try first | exact leafDraw (by kernel_rfl) | exact Leaf.mk trivial | (refine Leaf.mk ?_; omega) | (refine Leaf.mk ?_; unfold maxLen; omega)
  all_goals first
    | exact Leaf.mk rfl
    | exact Leaf.mk (show C.length ≤ 100000 by omega)
    | exact Leaf.mk (show M.length ≤ 100000 by omega)
    | exact Leaf.mk (show W.length ≤ 100000 by omega)
    | exact absurd (show sumsF C (l.length : Nat) (w64 (bytesF l)) = false from ‹_›) (by rw [q1]; simp)
    | exact absurd (show sumsF M (l.length : Nat) (w64 (bytesF l)) = false from ‹_›) (by rw [q2]; simp)
    | exact absurd (show sumsF W (l.length : Nat) (w64 (bytesF l)) = false from ‹_›) (by rw [q3]; simp)
    | (exfalso
       obtain ⟨k, rfl⟩ : ∃ k, j = k + 1 := ⟨j - 1, by omega⟩
       have := hps k (by omega)
       rw [show (((k + 1 : Nat) : Int) - 1).toNat = k by omega] at h
       exact absurd h (Int.not_le.2 this))
    | exact Leaf.mk ⟨j + 1, rfl, ⟨by omega, by omega⟩, by omega⟩
    | (trace_state; sorry)
end Go.Proofs.Ytcgfolhnoggjfaa
