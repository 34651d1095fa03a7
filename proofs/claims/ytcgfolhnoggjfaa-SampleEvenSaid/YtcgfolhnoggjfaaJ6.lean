import Derived.Test.YtcgfolhnoggjfaaJ5



set_option linter.unusedVariables false
set_option linter.unusedSimpArgs false
set_option maxRecDepth 8000
set_option maxHeartbeats 4000000
namespace Go.Proofs.Ytcgfolhnoggjfaa
open Go.Eng
/-- The first greatest, the first least, by keys. -/
def maxN (c : List Cnt) : Nat → Cnt
  | 0 => c.getD 0 cnt0
  | i + 1 => if 0 < (c.getD (i + 1) cnt0).2.1 - (maxN c i).2.1 then c.getD (i + 1) cnt0 else maxN c i
def minN (c : List Cnt) : Nat → Cnt
  | 0 => c.getD 0 cnt0
  | i + 1 => if (c.getD (i + 1) cnt0).2.1 - (minN c i).2.1 < 0 then c.getD (i + 1) cnt0 else minN c i
def bdK (c : List Cnt) : Prop := ∀ x ∈ c, -1125899906842624 ≤ x.2.1 ∧ x.2.1 ≤ 1125899906842624
def sSkew1 : PSpec := ⟨[.d CntT, .d CntT], [⟨false, [.d (.int .i64)]⟩], fun _ => True, fun x => ((w64 (x.1.2.1 - x.2.1.2.1), ()), ())⟩
theorem fSkew1 : FnOk Try.prog 56 := ⟨_, Try.func56, by decide, rfl⟩
theorem pSkew1 : PSound Try.prog 56 sSkew1 := by
  refine psound (T := tab) (S := (spOf [])) (keep := k56) (by kernel_rfl) tabOk spNil (by kernel_rfl) Try.func56 (by kernel_rfl) (by decide) fun xs hg hp => ?_
  obtain ⟨⟨lo, k, b⟩, ⟨lo2, k2, b2⟩, ⟨⟩⟩ := xs
  show vfun tab _ k56 Try.f56 [.agg [.s lo, .i .i64 k, .i .i64 b], .agg [.s lo2, .i .i64 k2, .i .i64 b2]] [] _
  refine Ev.out ?_
  repeat' (first | ((with_reducible refine Ev.mk ?_); conv => whnf) | (with_reducible refine And.intro ?_ ?_) | (intro h))
  all_goals exact Leaf.mk rfl
theorem fMaxC : FnOk Try.prog 57 := ⟨_, Try.func57, by decide, rfl⟩
noncomputable def iMaxC : Eng.Spec := inl tab (spOf [(56, sSkew1.spec (lsOf []))]) k57 Try.f57
theorem pMaxC : SpecOk Try.prog 57 iMaxC := inl_ok tabOk (spCons (pOk pSkew1 fSkew1 (by decide) lsNil) spNil) (by kernel_rfl) Try.func57 (by kernel_rfl)
theorem fMinC : FnOk Try.prog 58 := ⟨_, Try.func58, by decide, rfl⟩
noncomputable def iMinC : Eng.Spec := inl tab (spOf [(56, sSkew1.spec (lsOf []))]) k58 Try.f58
theorem pMinC : SpecOk Try.prog 58 iMinC := inl_ok tabOk (spCons (pOk pSkew1 fSkew1 (by decide) lsNil) spNil) (by kernel_rfl) Try.func58 (by kernel_rfl)
theorem maxN_mem {c : List Cnt} : ∀ i, i < c.length → maxN c i ∈ c
  | 0, h => getD_mem cnt0 h
  | i + 1, h => by
    rw [maxN]; split
    · exact getD_mem cnt0 h
    · exact maxN_mem i (by omega)
theorem minN_mem {c : List Cnt} : ∀ i, i < c.length → minN c i ∈ c
  | 0, h => getD_mem cnt0 h
  | i + 1, h => by
    rw [minN]; split
    · exact getD_mem cnt0 h
    · exact minN_mem i (by omega)
def skewF (c : List Cnt) : Int := if c.length = 0 then 0 else (maxN c (c.length - 1)).2.1 - (minN c (c.length - 1)).2.1
def sSkew : PSpec := ⟨[.d CntsT], [⟨false, [.d (.int .i64)]⟩], fun x => bdK x.1 ∧ List.length x.1 ≤ 100000, fun x => ((skewF x.1, ()), ())⟩
def sSkewR : PSpec := sSkew
theorem fSkew : FnOk Try.prog 28 := ⟨_, Try.func28, by decide, rfl⟩
theorem pSkew : PSound Try.prog 28 sSkew := by
  refine psound (T := tab) (S := (spOf [(57, iMaxC), (58, iMinC), (56, sSkew1.spec (lsOf []))])) (keep := k28) (by kernel_rfl) tabOk (spCons (.inl ⟨pMaxC, fMaxC⟩) (spCons (.inl ⟨pMinC, fMinC⟩) (spCons (pOk pSkew1 fSkew1 (by decide) lsNil) spNil))) (by kernel_rfl) Try.func28 (by kernel_rfl) (by decide) fun xs hg hp => ?_
  obtain ⟨c, ⟨⟩⟩ := xs
  change List Cnt at c
  change bdK c ∧ c.length ≤ 100000 at hp
  obtain ⟨hb, hp⟩ := hp
  clear hg
  show vfun tab _ k28 Try.f28 [.sl CntT c] [] _
  refine Ev.out ?_
  repeat' (first | ((with_reducible refine Ev.mk ?_); conv => whnf) | (with_reducible refine And.intro ?_ ?_) | (intro h))
  all_goals (try simp only [decide_eq_true_eq, decide_eq_false_iff_not, beq_iff_eq, bne_iff_ne, beq_eq_false_iff_ne, bne_eq_false_iff_eq, Int.toNat_natCast, ge_iff_le, gt_iff_lt, Bool.not_eq_true', Bool.not_eq_false', Int.not_lt, Int.not_le, ne_eq] at *)
  all_goals (try dsimp only [Ty.den, Ty.dflt, CntT] at *)
  all_goals (try simp only [eq4, ne4, eq3, ne3, eq2, ne2, Prod.eta, List.length_cons, List.length_nil, List.length_append, Nat.zero_add] at *)
  all_goals (try simp (disch := omega) only [wrap64] at *)
  all_goals try first | exact leafDraw (by kernel_rfl) | exact Leaf.mk trivial | (refine Leaf.mk ?_; omega) | (refine Leaf.mk ?_; unfold maxLen; omega)
  · refine Leaf.mk (ret1 (show 0 = skewF c from ?_))
    rw [skewF, if_pos (by omega)]
  · exfalso; omega
  have hmx := fun (i : Nat) (h : i < c.length) => hb _ (maxN_mem (c := c) i h)
  have hmn := fun (i : Nat) (h : i < c.length) => hb _ (minN_mem (c := c) i h)
  have hci := fun (i : Nat) (h : i < c.length) => hb _ (getD_mem cnt0 h)
  refine LoopVC.on (fun i : Nat => [(6, .i .i64 i)]) (fun i => [(17, .box [.s (maxN c (i - 1)).1, .i .i64 (maxN c (i - 1)).2.1, .i .i64 (maxN c (i - 1)).2.2])]) (fun i => 1 ≤ i ∧ i ≤ c.length) (fun i => c.length - i) 1 rfl (by omega) ?_
  intro i ⟨hi1, hi⟩
  have h1 := hmx (i - 1) (by omega)
  repeat' (first | ((with_reducible refine Ev.mk ?_); conv => whnf) | (with_reducible refine And.intro ?_ ?_) | (intro h))
  all_goals (try simp only [decide_eq_true_eq, decide_eq_false_iff_not, beq_iff_eq, bne_iff_ne, beq_eq_false_iff_ne, bne_eq_false_iff_eq, Int.toNat_natCast, ge_iff_le, gt_iff_lt, Bool.not_eq_true', Bool.not_eq_false', Int.not_lt, Int.not_le, ne_eq] at *)
  all_goals (try dsimp only [Ty.den, Ty.dflt, CntT, sSkew1] at *)
  all_goals (try simp only [eq4, ne4, eq3, ne3, eq2, ne2, Prod.eta, List.length_cons, List.length_nil, List.length_append, Nat.zero_add] at *)
  all_goals (try simp (disch := omega) only [wrap64] at *)
  all_goals try first | exact leafDraw (by kernel_rfl) | exact Leaf.mk trivial | (refine Leaf.mk ?_; omega) | (refine Leaf.mk ?_; unfold maxLen; omega)
  rotate_left 2
  · exfalso; omega
  · obtain rfl : i = c.length := by omega
    have h2 := hmx (c.length - 1) (by omega)
    refine LoopVC.on (fun i : Nat => [(6, .i .i64 i)]) (fun i => [(49, .box [.s (minN c (i - 1)).1, .i .i64 (minN c (i - 1)).2.1, .i .i64 (minN c (i - 1)).2.2])]) (fun i => 1 ≤ i ∧ i ≤ c.length) (fun i => c.length - i) 1 rfl (by omega) ?_
    intro j ⟨hj1, hj⟩
    have h3 := hmn (j - 1) (by omega)
    repeat' (first | ((with_reducible refine Ev.mk ?_); conv => whnf) | (with_reducible refine And.intro ?_ ?_) | (intro h))
    all_goals (try simp only [decide_eq_true_eq, decide_eq_false_iff_not, beq_iff_eq, bne_iff_ne, beq_eq_false_iff_ne, bne_eq_false_iff_eq, Int.toNat_natCast, ge_iff_le, gt_iff_lt, Bool.not_eq_true', Bool.not_eq_false', Int.not_lt, Int.not_le, ne_eq] at *)
    all_goals (try dsimp only [Ty.den, Ty.dflt, CntT, sSkew1] at *)
    all_goals (try simp only [eq4, ne4, eq3, ne3, eq2, ne2, Prod.eta, List.length_cons, List.length_nil, List.length_append, Nat.zero_add] at *)
    all_goals (try simp (disch := omega) only [wrap64] at *)
    all_goals try first | exact leafDraw (by kernel_rfl) | exact Leaf.mk trivial | (refine Leaf.mk ?_; omega) | (refine Leaf.mk ?_; unfold maxLen; omega)
    rotate_right
    · refine Leaf.mk (ret1 (show _ = skewF c from ?_))
      rw [show j - 1 = c.length - 1 by omega] at *
      rw [skewF, if_neg (by omega)]
    all_goals
      have h4 := hci j (by omega)
      have hw : w64 ((c.getD j cnt0).2.1 - (minN c (j - 1)).2.1) = (c.getD j cnt0).2.1 - (minN c (j - 1)).2.1 := wrap64 (by omega)
      refine Leaf.mk ⟨j + 1, ?_, ⟨by omega, by omega⟩, by omega⟩
      obtain ⟨k, rfl⟩ : ∃ k, j = k + 1 := ⟨j - 1, by omega⟩
      simp only [Nat.add_sub_cancel] at *
      rw [hw] at h
      first
      | (rw [minN, if_pos (by omega)]; rfl)
      | (rw [minN, if_neg (by omega)]; rfl)
  all_goals
    have h4 := hci i (by omega)
    have hw : w64 ((c.getD i cnt0).2.1 - (maxN c (i - 1)).2.1) = (c.getD i cnt0).2.1 - (maxN c (i - 1)).2.1 := wrap64 (by omega)
    refine Leaf.mk ⟨i + 1, ?_, ⟨by omega, by omega⟩, by omega⟩
    obtain ⟨k, rfl⟩ : ∃ k, i = k + 1 := ⟨i - 1, by omega⟩
    simp only [Nat.add_sub_cancel] at *
    rw [hw] at h
    first
    | (rw [maxN, if_pos (by omega)]; rfl)
    | (rw [maxN, if_neg (by omega)]; rfl)
theorem fSkewR : FnOk Try.prog 29 := ⟨_, Try.func29, by decide, rfl⟩
theorem pSkewR : PSound Try.prog 29 sSkewR := by
  refine psound (T := tab) (S := (spOf [])) (keep := k29) (by kernel_rfl) tabOk spNil (by kernel_rfl) Try.func29 (by kernel_rfl) (by decide) fun xs hg hp => ?_
  obtain ⟨c, ⟨⟩⟩ := xs
  change List Cnt at c
  change bdK c ∧ c.length ≤ 100000 at hp
  obtain ⟨hb, hp⟩ := hp
  clear hg
  show vfun tab _ k29 Try.f29 [.sl CntT c] [] _
  refine Ev.out ?_
  repeat' (first | ((with_reducible refine Ev.mk ?_); conv => whnf) | (with_reducible refine And.intro ?_ ?_) | (intro h))
  all_goals (try simp only [decide_eq_true_eq, decide_eq_false_iff_not, beq_iff_eq, bne_iff_ne, beq_eq_false_iff_ne, bne_eq_false_iff_eq, Int.toNat_natCast, ge_iff_le, gt_iff_lt, Bool.not_eq_true', Bool.not_eq_false', Int.not_lt, Int.not_le, ne_eq] at *)
  all_goals (try dsimp only [Ty.den, Ty.dflt, CntT] at *)
  all_goals (try simp only [eq4, ne4, eq3, ne3, eq2, ne2, Prod.eta, List.length_cons, List.length_nil, List.length_append, Nat.zero_add] at *)
  all_goals (try simp (disch := omega) only [wrap64] at *)
  all_goals try first | exact leafDraw (by kernel_rfl) | exact Leaf.mk trivial | (refine Leaf.mk ?_; omega) | (refine Leaf.mk ?_; unfold maxLen; omega)
  · refine Leaf.mk (ret1 (show 0 = skewF c from ?_))
    rw [skewF, if_pos (by omega)]
  have hmx := fun (i : Nat) (h : i < c.length) => hb _ (maxN_mem (c := c) i h)
  have hmn := fun (i : Nat) (h : i < c.length) => hb _ (minN_mem (c := c) i h)
  have hci := fun (i : Nat) (h : i < c.length) => hb _ (getD_mem cnt0 h)
  refine LoopVC.on (fun i : Nat => [(3, .i .i64 (minN c (i - 1)).2.1), (4, .i .i64 (maxN c (i - 1)).2.1), (5, .i .i64 i)]) (fun _ => []) (fun i => i ≤ c.length) (fun i => c.length - i) 0 rfl (by omega) ?_
  intro i hi
  repeat' (first | ((with_reducible refine Ev.mk ?_); conv => whnf) | (with_reducible refine And.intro ?_ ?_) | (intro h))
  all_goals (try simp only [decide_eq_true_eq, decide_eq_false_iff_not, beq_iff_eq, bne_iff_ne, beq_eq_false_iff_ne, bne_eq_false_iff_eq, Int.toNat_natCast, ge_iff_le, gt_iff_lt, Bool.not_eq_true', Bool.not_eq_false', Int.not_lt, Int.not_le, ne_eq] at *)
  all_goals (try dsimp only [Ty.den, Ty.dflt, CntT, sSkew1] at *)
  all_goals (try simp only [eq4, ne4, eq3, ne3, eq2, ne2, Prod.eta, List.length_cons, List.length_nil, List.length_append, Nat.zero_add] at *)
  all_goals (try simp (disch := omega) only [wrap64] at *)
  all_goals try first | exact leafDraw (by kernel_rfl) | exact Leaf.mk trivial | (refine Leaf.mk ?_; omega) | (refine Leaf.mk ?_; unfold maxLen; omega)
  · refine Leaf.mk ⟨i + 1, ?_, by omega, by omega⟩
    have e1 : (if (c.getD i cnt0).2.1 < (minN c (i - 1)).2.1 then (c.getD i cnt0).2.1 else (minN c (i - 1)).2.1) = (minN c (i + 1 - 1)).2.1 := by
      cases i with
      | zero => simp only [Nat.zero_sub, minN]; split <;> first | rfl | omega
      | succ k =>
        simp only [Nat.add_sub_cancel]
        rw [minN]; split <;> split <;> first | rfl | omega
    have e2 : (if (maxN c (i - 1)).2.1 < (c.getD i cnt0).2.1 then (c.getD i cnt0).2.1 else (maxN c (i - 1)).2.1) = (maxN c (i + 1 - 1)).2.1 := by
      cases i with
      | zero => simp only [Nat.zero_sub, maxN]; split <;> first | rfl | omega
      | succ k =>
        simp only [Nat.add_sub_cancel]
        rw [maxN]; split <;> split <;> first | rfl | omega
    have e3 : ∀ a b a' b' : Int, a = a' → b = b' → (⟨[(0, V.sl CntT c), (3, .i .i64 a), (4, .i .i64 b), (5, .i .i64 ((i : Int) + 1))], []⟩ : St) = ⟨[(0, V.sl CntT c), (3, .i .i64 a'), (4, .i .i64 b'), (5, .i .i64 ((i : Int) + 1))], []⟩ := fun a b a' b' h1 h2 => by rw [h1, h2]
    exact e3 _ _ _ _ e1 e2
  · have h1 := hmx (i - 1) (by omega)
    have h2 := hmn (i - 1) (by omega)
    refine Leaf.mk (ret1 (show _ = skewF c from ?_))
    rw [wrap64 (by omega), skewF, if_neg (by omega), show i - 1 = c.length - 1 by omega]
end Go.Proofs.Ytcgfolhnoggjfaa
