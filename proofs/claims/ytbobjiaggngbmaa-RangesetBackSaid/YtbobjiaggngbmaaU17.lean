import Derived.Test.YtbobjiaggngbmaaQ10
/- Texts, one behind the other. -/
set_option linter.unusedVariables false
set_option linter.unusedSimpArgs false
set_option maxRecDepth 8000
set_option maxHeartbeats 8000000
namespace Go.Proofs.Ytbobjiaggngbmaa
open Go.Eng
def sPlainD : PSpec := ⟨[.d RgsT], [⟨false, [.d RgsT]⟩], fun x => List.length x.1 ≤ 100000, fun x => ((madeR x.1 [] 0, ()), ())⟩
theorem fPlainD : FnOk Try.prog 12 := ⟨_, Try.func12, by decide, rfl⟩
theorem pPlainD : PSound Try.prog 12 sPlainD := by
  refine psoundJ (T := tab) (S := (spOf [(37, iValuesR), (36, sSortedFR.spec (lsOf [])), (40, sEmpty.spec (lsOf [])), (41, sEndless.spec (lsOf []))])) (keep := k12) 3 0 [3, 4, 5] (by kernel_rfl) tabOk (spCons (.inl ⟨pValuesR, fValuesR⟩) (spCons (pOk pSortedFR fSortedFR (by decide) lsNil) (spCons (pOk pEmpty fEmpty (by decide) lsNil) (spCons (pOk pEndless fEndless (by decide) lsNil) spNil)))) (by kernel_rfl) Try.func12 rfl rfl rfl (by kernel_rfl) (by kernel_rfl) (by kernel_rfl) (by decide) fun xs hg hp => ?_
  obtain ⟨l, ⟨⟩⟩ := xs
  change List Rg at l
  clear hg
  change l.length ≤ 100000 at hp
  change vc _ _ _ _ ⟨[(0, .sl RgT l)], []⟩ _
  refine Ev.out ?_
  repeat' (first | ((with_reducible refine Ev.mk ?_); conv => whnf) | (with_reducible refine And.intro ?_ ?_) | (intro h))
  · exact Leaf.mk hp
  have hSl := srtR_len l
  have hSp := srtR_perm l
  have hSs := srtR_sorted l
  show LoopVC _ _ ⟨_, [(0, .arr 29 RgT (srtR l))]⟩ _
  generalize srtR l = s at *
  refine LoopVC.weak [(.slot 4, .nil 29 RgT)] (fun i : Nat => [(5, .i .i64 i)]) (fun i => [(1, .arr 29 RgT ((s.take i).foldl stepP []))]) (fun i => i ≤ s.length) (fun i => s.length - i) 0 (Ev.mk ?_)
  (conv => whnf)
  refine ⟨Leaf.mk rfl, Leaf.mk ?_, ?_⟩
  · omega
  intro i hi
  have hat : ∀ h : i < s.length, (s.take (i + 1)).foldl stepP [] = stepP ((s.take i).foldl stepP []) (s.getD i rg0) := fun h => foldl_at rg0 h
  have hOl := foldP_len (s.take i) []
  have htl : (s.take i).length ≤ i := List.length_take_le _ _
  have hfin : s.length ≤ i → (s.take i).foldl stepP [] = madeR l [] 0 := fun h => by
    rw [take_all h]
    exact plain_made hSp (foldP_ok s [] [] (plOk_init s) hSs)
  generalize hO : (s.take i).foldl stepP [] = O at *
  rw [List.length_nil] at hOl
  have hw : IntKind.i64.wrap ((O.length : Int) - 1) = (O.length : Int) - 1 := by simp (disch := omega) only [wrap64]
  have hn : ((O.length : Int) - 1).toNat = O.length - 1 := by omega
  repeat' (first | ((with_reducible refine Ev.mk ?_); conv => whnf) | (with_reducible refine And.intro ?_ ?_) | (intro h))
  all_goals (try simp only [decide_eq_true_eq, decide_eq_false_iff_not, beq_iff_eq, bne_iff_ne, beq_eq_false_iff_ne, bne_eq_false_iff_eq, Int.toNat_natCast, ge_iff_le, gt_iff_lt, Bool.not_eq_true', Bool.not_eq_false', Int.not_lt, Int.not_le, ne_eq] at *)
  all_goals (try dsimp only [Ty.den, Ty.dflt, RgT, sEmpty, sEndless] at *)
  all_goals (try simp only [eq4, ne4, eq3, ne3, eq2, ne2, Prod.eta, List.length_cons, List.length_nil, List.length_append, Nat.zero_add] at *)
  all_goals (try simp (disch := omega) only [wrap64] at *)
  all_goals try first | exact leafDraw (by kernel_rfl) | exact Leaf.mk trivial | (refine Leaf.mk ?_; omega) | (refine Leaf.mk ?_; unfold maxLen; omega)
  all_goals try simp only [hw, hn] at *
  all_goals first
    | (refine Leaf.mk ?_; omega)
    | (refine Leaf.mk ?_; unfold maxLen; omega)
    | exact Leaf.mk (ret1 (show O = madeR l [] 0 from hfin (by omega)))
    | (exfalso; simp_all; done)
    | (refine Leaf.mk ⟨i + 1, ?_, by omega, by omega⟩
       first
       | (rw [hat (by omega), stepP_empty (by assumption)]; rfl)
       | (rw [hat (by omega), stepP_first (by assumption) (by omega)]; rfl)
       | (rw [hat (by omega), stepP_keep (by assumption) (by omega) (by assumption)]; rfl)
       | (rw [hat (by omega), stepP_new (by assumption) (by omega) (by assumption) (by assumption)]; rfl)
       | (rw [hat (by omega), stepP_end (by assumption) (by omega) (by assumption) (by assumption) (by assumption)]; rfl)
       | (rw [hat (by omega), stepP_max (by assumption) (by omega) (by assumption) (by assumption) (by assumption)]; rfl))
    | skip
theorem madeF_mem (p : Str → Bool) : ∀ (es : List Str) (o : Option Str) (r : Rg), r ∈ madeF p o es → (r.1 ∈ es ∨ o = some r.1) ∧ (r.2 ∈ es ∨ r.2 = [])
  | [], none, r, h => by cases h
  | [], some lo, r, h => by
    rw [madeF, List.mem_singleton] at h
    subst h
    exact ⟨.inr rfl, .inr rfl⟩
  | e :: es, none, r, h => by
    rw [madeF] at h
    split at h
    · obtain ⟨h1, h2⟩ := madeF_mem p es _ r h
      refine ⟨.inl ?_, h2.imp (List.mem_cons_of_mem _) id⟩
      rcases h1 with h1 | h1
      · exact List.mem_cons_of_mem _ h1
      · cases h1; exact List.mem_cons_self
    · obtain ⟨h1, h2⟩ := madeF_mem p es _ r h
      exact ⟨.inl (h1.elim (List.mem_cons_of_mem _) fun h => (by cases h)), h2.imp (List.mem_cons_of_mem _) id⟩
  | e :: es, some lo, r, h => by
    rw [madeF] at h
    split at h
    · obtain ⟨h1, h2⟩ := madeF_mem p es _ r h
      exact ⟨h1.imp (List.mem_cons_of_mem _) id, h2.imp (List.mem_cons_of_mem _) id⟩
    · rcases List.mem_cons.1 h with rfl | h
      · exact ⟨.inr rfl, .inl List.mem_cons_self⟩
      · obtain ⟨h1, h2⟩ := madeF_mem p es _ r h
        exact ⟨.inl (h1.elim (List.mem_cons_of_mem _) fun h => (by cases h)), h2.imp (List.mem_cons_of_mem _) id⟩
theorem madeR_txt {a b : List Rg} {kind : Int} {m : Nat} (ha : ∀ r ∈ a, r.1.length + r.2.length ≤ m) (hb : ∀ r ∈ b, r.1.length + r.2.length ≤ m) : ∀ r ∈ madeR a b kind, r.1.length + r.2.length ≤ 2 * m := fun r hr => by
  have he : ∀ e ∈ endsR (a ++ b), e.length ≤ m := fun e he => by
    rcases endsR_mem.1 he with rfl | ⟨q, hq, h⟩
    · exact Nat.zero_le _
    · rcases List.mem_append.1 hq with hq | hq
      · have := ha q hq
        rcases h with rfl | rfl <;> omega
      · have := hb q hq
        rcases h with rfl | rfl <;> omega
  obtain ⟨h1, h2⟩ := madeF_mem _ _ _ r hr
  have h1 : r.1.length ≤ m := h1.elim (he _) fun h => by cases h
  have h2 : r.2.length ≤ m := h2.elim (he _) fun h => by rw [h]; exact Nat.zero_le _
  omega
theorem made_self {x : List Rg} (hx : PlainR x) : madeR x [] 0 = x := (made_uniq hx fun k => by rw [pK, if_neg (by decide), if_neg (by decide), has_nil, Bool.or_false]).symm
theorem made_step (x g : List Rg) {i : Nat} (h : i < g.length) : madeR (madeR x (g.take i) 0) [g.getD i rg0] 0 = madeR x (g.take (i + 1)) 0 := by
  refine made_uniq (madeR_ok _ _ _).1 fun k => ?_
  rw [made_has, pK, if_neg (by decide), if_neg (by decide), made_has, take_at rg0 h]
  simp [pK, has_app, Bool.or_assoc]
theorem made_gaps (x : List Rg) (z : Rg) : madeR x (madeR [z] x 2) 0 = madeR x [z] 0 := by
  refine made_uniq (madeR_ok _ _ _).1 fun k => ?_
  rw [made_has]
  simp only [pK, made_has]
  cases hasRg x k <;> simp
theorem made_again (x : List Rg) (z : Rg) : madeR (madeR x [z] 0) [z] 2 = madeR x [z] 2 := by
  refine made_uniq (madeR_ok _ _ _).1 fun k => ?_
  rw [made_has]
  simp only [pK, made_has]
  cases hasRg x k <;> simp
theorem made_none {a b : List Rg} (h : ∀ k, hasRg a k = true → hasRg b k = true) : madeR a b 2 = [] := by
  refine (made_uniq (show PlainR [] from trivial) fun k => ?_).symm
  rw [has_nil]
  simp only [pK]
  cases ha : hasRg a k
  · simp
  · rw [h k ha]; simp
theorem made_left (x : List Rg) (z : Rg) : madeR [z] (madeR x [z] 0) 2 = [] := made_none fun k h => by rw [made_has]; simp [pK, h]
theorem made_cov (x : List Rg) (z : Rg) : covR (madeR x [z] 0) x = true := by
  unfold covR
  rw [made_none fun k h => by rw [made_has]; simp [pK, h]]
  rfl
def sRangesetBack : PSpec := lawSpecZ [.sl 32 (.pr .s .s), .pr .s .s] [RgsT, RgT]
theorem pRangesetBack : PSound Try.prog 6 sRangesetBack := by
  refine psound (T := tab) (S := (spOf [(8, sLightR32.spec (lsOf [])), (9, sAwake32.spec (lsOf [])), (10, sOwn32.spec (lsOf [])), (12, sPlainD.spec (lsOf [])), (20, sGapsA.spec (lsOf [])), (14, sAddA.spec (lsOf [])), (24, sPutG.spec (lsOf [])), (26, sGetG.spec (lsOf [])), (34, sSameA.spec (lsOf [])), (16, sRemoveA.spec (lsOf [])), (22, sCoversA.spec (lsOf []))])) (keep := k6) (by kernel_rfl) tabOk (spCons (pOk pLightR32 fLightR32 (by decide) lsNil) (spCons (pOk pAwake32 fAwake32 (by decide) lsNil) (spCons (pOk pOwn32 fOwn32 (by decide) lsNil) (spCons (pOk pPlainD fPlainD (by decide) lsNil) (spCons (pOk pGapsA fGapsA (by decide) lsNil) (spCons (pOk pAddA fAddA (by decide) lsNil) (spCons (pOk pPutG fPutG (by decide) lsNil) (spCons (pOk pGetG fGetG (by decide) lsNil) (spCons (pOk pSameA fSameA (by decide) lsNil) (spCons (pOk pRemoveA fRemoveA (by decide) lsNil) (spCons (pOk pCoversA fCoversA (by decide) lsNil) spNil))))))))))) (by kernel_rfl) Try.func6 (by kernel_rfl) (by decide) fun xs hg hp => ?_
  obtain ⟨l, ⟨lo, hi⟩, ⟨⟩⟩ := xs
  change List Rg at l
  change List UInt8 at lo hi
  obtain ⟨hz1, hz3, -⟩ := hp
  have hz1 := szRs_of hz1
  have hz3 := szR_of (r := (lo, hi)) hz3
  clear hg
  have hla : lightR l 20 = true → l.length ≤ 20 := fun h => by have := light_len h; omega
  have hx := madeR_len l [] 0
  rw [List.length_nil] at hx
  have hxp : PlainR (madeR l [] 0) := (madeR_ok l [] 0).1
  have hok : lightR l 20 = true → okG (madeR l [] 0) ∧ (putG (madeR l [] 0)).length ≤ 50000 := fun h => by
    obtain ⟨h1, h2⟩ := lightR_of h
    have h3 := sumT_le (madeR_txt (b := []) (kind := 0) h2 fun r hr => by cases hr)
    have h4 : sumT (madeR l [] 0) ≤ 16800 := by
      have : (madeR l [] 0).length * (2 * 200) ≤ 42 * (2 * 200) := Nat.mul_le_mul_right _ (by omega)
      omega
    have h5 := putR1s_len (madeR l [] 0)
    have h6 := putSmall_len ((madeR l [] 0).length : Int)
    refine ⟨⟨by omega, by omega⟩, ?_⟩
    rw [putG, List.length_append]; omega
  show vfun tab _ k6 Try.f6 [.sl RgT l, .agg [.s lo, .s hi]] [] _
  refine Ev.out ?_
  repeat' (first | ((with_reducible refine Ev.mk ?_); conv => whnf) | (with_reducible refine And.intro ?_ ?_) | (intro h))
  all_goals (try simp only [decide_eq_true_eq, decide_eq_false_iff_not, beq_iff_eq, bne_iff_ne, beq_eq_false_iff_ne, bne_eq_false_iff_eq, Int.toNat_natCast, ge_iff_le, gt_iff_lt, Bool.not_eq_true', Bool.not_eq_false', Int.not_lt, Int.not_le, ne_eq] at *)
  all_goals (try dsimp only [Ty.den, Ty.dflt, RgT, sLightR32, sOwn32, sPlainD, sGapsA, sAddA, sPutG, sGetG, sRemoveA, sCoversA, sSameA, sEqualR] at *)
  all_goals (try simp only [eq4, ne4, eq3, ne3, eq2, ne2, Prod.eta, List.length_cons, List.length_nil, List.length_append, Nat.zero_add] at *)
  all_goals (try simp (disch := omega) only [wrap64] at *)
  all_goals try first | exact leafDraw (by kernel_rfl) | exact Leaf.mk trivial | (refine Leaf.mk ?_; omega) | (refine Leaf.mk ?_; unfold maxLen; omega)
  all_goals try first
    | exact Leaf.mk rfl
    | exact Leaf.mk (show ∀ r ∈ [(lo, hi)], SzR r from fun r hr => by rw [List.mem_singleton] at hr; rw [hr]; exact hz3)
    | (have := hla (by assumption); refine Leaf.mk ?_; omega)
  have hll := hla (by assumption)
  have hok := hok (by assumption)
  have hself := made_self hxp
  have hga := made_gaps (madeR l [] 0) (lo, hi)
  have hag := made_again (madeR l [] 0) (lo, hi)
  have hleft := made_left (madeR l [] 0) (lo, hi)
  have hcov := made_cov (madeR l [] 0) (lo, hi)
  have hgl := madeR_len [(lo, hi)] (madeR l [] 0) 2
  have hchk := chkR_ok hxp
  rw [List.length_singleton] at hgl
  clear hla hz1 hz3 hxp
  generalize madeR l [] 0 = x at *
  generalize hG : madeR [(lo, hi)] x 2 = g at *
  refine LoopVC.weak2 [(.slot 7, .frz)] (fun i : Nat => [(8, .sl RgT (madeR x (g.take i) 0)), (9, .i .i64 i)]) (fun _ => []) (fun i => i ≤ g.length) (fun i => g.length - i) 0 (Ev.mk ?_)
  (conv => whnf)
  refine ⟨Leaf.mk ?_, Leaf.mk ?_, ?_⟩
  · rw [List.take_zero, hself]; rfl
  · omega
  intro i hi2
  have hat : ∀ h : i < g.length, madeR (madeR x (g.take i) 0) [g.getD i ([], [])] 0 = madeR x (g.take (i + 1)) 0 := fun h => made_step x g h
  have hyl := madeR_len x (g.take i) 0
  have htl : (g.take i).length ≤ i := List.length_take_le _ _
  have hfin : g.length ≤ i → madeR x (g.take i) 0 = madeR x [(lo, hi)] 0 := fun h => by rw [List.take_of_length_le h, hga]
  have hput : putGF x = (putG x, 0) := if_pos hchk
  have hget : getG (putG x) = (x, 0) := getG_put hchk rfl (by omega)
  generalize hY : madeR x (g.take i) 0 = Y at *
  repeat' (first | ((with_reducible refine Ev.mk ?_); conv => whnf) | (with_reducible refine And.intro ?_ ?_) | (intro h))
  all_goals (try simp only [decide_eq_true_eq, decide_eq_false_iff_not, beq_iff_eq, bne_iff_ne, beq_eq_false_iff_ne, bne_eq_false_iff_eq, Int.toNat_natCast, ge_iff_le, gt_iff_lt, Bool.not_eq_true', Bool.not_eq_false', Int.not_lt, Int.not_le, ne_eq] at *)
  all_goals (try dsimp only [Ty.den, Ty.dflt, RgT, sLightR32, sOwn32, sPlainD, sGapsA, sAddA, sPutG, sGetG, sRemoveA, sCoversA, sSameA, sEqualR] at *)
  all_goals (try simp only [eq4, ne4, eq3, ne3, eq2, ne2, Prod.eta, List.length_cons, List.length_nil, List.length_append, Nat.zero_add] at *)
  all_goals (try simp (disch := omega) only [wrap64] at *)
  all_goals try first | exact leafDraw (by kernel_rfl) | exact Leaf.mk trivial | (refine Leaf.mk ?_; omega) | (refine Leaf.mk ?_; unfold maxLen; omega)
  · exact Leaf.mk ⟨i + 1, .inr ⟨[(.slot 8, .frz)], by (conv => whnf); rw [hat (by omega)]; rfl⟩, by omega, by omega⟩
  all_goals
    have hY2 := hfin (by omega)
    clear hfin hat
    subst hY2
  all_goals first
    | exact Leaf.mk rfl
    | exact Leaf.mk hok.1
    | exact Leaf.mk (show (putGF x).1.length ≤ 50000 by rw [hput]; exact hok.2)
    | (refine Leaf.mk ?_; have := madeR_len x [(lo, hi)] 0; rw [List.length_singleton] at this; omega)
    | (exfalso
       rw [hput] at *
       first
       | exact absurd rfl (show ¬ (0 : Int) = 0 from by assumption)
       | (dsimp only at *; rw [hget] at *; first | exact absurd rfl (show ¬ (0 : Int) = 0 from by assumption) | exact same_no (l := x) (by assumption)))
    | (exfalso; exact same_no (l := madeR x [(lo, hi)] 0) (by assumption))
    | (exfalso
       have h9 : covR (madeR x [(lo, hi)] 0) x = false := by assumption
       rw [hcov] at h9; cases h9)
    | (exfalso
       have h9 : ¬ ((madeR [(lo, hi)] (madeR x [(lo, hi)] 0) 2).length : Int) = 0 := by assumption
       rw [hleft] at h9; exact h9 rfl)
    | (exfalso
       have h9 : sameR (madeR (madeR x [(lo, hi)] 0) [(lo, hi)] 2) (madeR x [(lo, hi)] 2) = false := by assumption
       rw [hag] at h9; exact same_no h9)
    | (exfalso
       have h9 : sameR (madeR x [] 0) x = false := by assumption
       rw [hself] at h9; exact same_no h9)
    | skip
end Go.Proofs.Ytbobjiaggngbmaa
