import Derived.Test.YtoedpnniaikfbaaH13



set_option linter.unusedVariables false
set_option linter.unusedSimpArgs false
set_option maxRecDepth 8000
set_option maxHeartbeats 4000000
namespace Go.Proofs.Ytoedpnniaikfbaa
open Go.Eng
def sMsgParts : PSpec := lawSpec [StT, MsT, .int .u8]
theorem fMsgParts : FnOk Try.prog 8 := ⟨_, Try.func8, by decide, rfl⟩
theorem pMsgParts : PSound Try.prog 8 sMsgParts := by
  refine psound (T := tab) (S := (spOf [(13, sLight.spec (lsOf [])), (14, sLightM.spec (lsOf [])), (15, sAwake12.spec (lsOf [])), (23, sFold.spec (lsOf [])), (16, sSSameR.spec (lsOf [])), (26, sFor.spec (lsOf [])), (36, sCheck.spec (lsOf []))])) (keep := k8) (by kernel_rfl) tabOk (spCons (pOk pLight fLight (by decide) lsNil) (spCons (pOk pLightM fLightM (by decide) lsNil) (spCons (pOk pAwake12 fAwake12 (by decide) lsNil) (spCons (pOk pFold fFold (by decide) lsNil) (spCons (pOk pSSameR fSSameR (by decide) lsNil) (spCons (pOk pFor fFor (by decide) lsNil) (spCons (pOk pCheck fCheck (by decide) lsNil) spNil))))))) (by kernel_rfl) Try.func8 (by kernel_rfl) (by decide) fun xs hg hp => ?_
  obtain ⟨⟨skey, xs⟩, l, c, ⟨⟩⟩ := xs
  obtain ⟨-, ⟨-, hgl⟩, hc, -⟩ := hg
  change List UInt8 at skey
  change List Ver at xs
  change List Msg at l
  change Int at c
  have hc : 0 ≤ c ∧ c ≤ 255 := bdu8 hc
  have hm : ∀ m ∈ l, 0 ≤ m.1 := fun m hm => (bdu8 (hgl m hm).1).1
  have e1 : IntKind.i64.wrap c = c := wrap64 (by omega)
  obtain ⟨K, hK, hKl⟩ : ∃ K : Nat, c.tmod ((l.length : Int) + 1) = K ∧ K ≤ l.length := by
    have h1 := Int.tmod_nonneg ((l.length : Int) + 1) hc.1
    have h2 := Int.tmod_lt_of_pos c (show (0 : Int) < (l.length : Int) + 1 by omega)
    exact ⟨(c.tmod ((l.length : Int) + 1)).toNat, by omega, by omega⟩
  clear hp hgl
  show vfun tab _ k8 Try.f8 [.agg [.s skey, .sl VerT xs], .sl MsgT l, .i .u8 c] [] _
  refine Ev.out ?_
  repeat' (first | ((with_reducible refine Ev.mk ?_); conv => whnf) | (with_reducible refine And.intro ?_ ?_) | (intro h))
  all_goals (try simp only [decide_eq_true_eq, decide_eq_false_iff_not, beq_iff_eq, bne_iff_ne, beq_eq_false_iff_ne, bne_eq_false_iff_eq, Int.toNat_natCast, ge_iff_le, gt_iff_lt, Bool.not_eq_true', Bool.not_eq_false', Int.not_lt, Int.not_le, ne_eq] at *)
  all_goals (try dsimp only [Ty.den, Ty.dflt, MsgT, VerT, sLightM, sLight] at *)
  all_goals (try simp only [eq4, ne4, eq3, ne3, eq2, ne2, Prod.eta, List.length_cons, List.length_nil, List.length_append, Nat.zero_add] at *)
  all_goals (try simp (disch := omega) only [wrap64] at *)
  all_goals try first | exact leafDraw (by kernel_rfl) | exact Leaf.mk trivial | (refine Leaf.mk ?_; omega) | (refine Leaf.mk ?_; unfold maxLen; omega)
  · exact Leaf.mk rfl
  · exact Leaf.mk rfl
  all_goals
    have hx := (light_of ‹light (skey, xs) = true›).2
    have hll := lightM_len ‹lightM l 20 = true›
    dsimp only at hx
    have e2 : IntKind.i64.wrap ((l.length : Int) + 1) = (l.length : Int) + 1 := wrap64 (by omega)
    simp only [e1, e2, hK, Int.toNat_natCast, Int.toNat_zero, List.drop_zero, take_all (Nat.le_refl l.length)] at *
  all_goals first
    | exact Leaf.mk rfl
    | exact Leaf.mk (by omega)
    | (refine Leaf.mk ?_; exact decide_eq_true (by omega); done)
    | exact Leaf.mk (show xs.length + l.length ≤ 50000 by omega)
    | exact Leaf.mk (show xs.length + (l.take K).length ≤ 50000 by rw [List.length_take]; omega)
    | exact Leaf.mk (show (foldM (skey, xs) (l.take K)).2.length + (l.drop K).length ≤ 50000 by
        have := fold_len (l.take K) (skey, xs)
        rw [List.length_take] at this
        rw [List.length_drop]; dsimp only at this; omega)
    | exact Leaf.mk (show l.length ≤ 100000 by omega)
    | exact Leaf.mk (show xs.length + (l.filter (about skey)).length ≤ 50000 by
        have := List.length_filter_le (about skey) l
        omega)
    | exact sameS_self (a := foldM (skey, xs) l) (by
        have := (show sameS (foldM (skey, xs) l) (foldM (foldM (skey, xs) (l.take K)) (l.drop K)) = false from ‹_›)
        rwa [fold_cut] at this)
    | exact sameS_self (a := foldM (skey, xs) l) (by
        have := (show sameS (foldM (skey, xs) l) (foldM (skey, xs) (l.filter (about skey))) = false from ‹_›)
        have e := fold_about l (skey, xs)
        dsimp only at e
        rwa [e] at this)
    | exact absurd (fold_ok l (skey, xs) (show check (skey, xs) = 0 from ‹_›) hm) (show ¬ check (foldM (skey, xs) l) = 0 from ‹_›)
theorem within_lo {lo hi k : List UInt8} (h : withinK lo hi k = true) : sless k lo = false := by
  simp only [withinK, Bool.and_eq_true, Bool.not_eq_true'] at h; exact h.1
theorem within_hi {lo hi k : List UInt8} (h : withinK lo hi k = true) (hn : ¬ hi = []) : sless k hi = true := by
  simp only [withinK, Bool.and_eq_true, Bool.or_eq_true, beq_iff_eq] at h
  exact h.2.resolve_left hn
theorem wrP_t {lo hi : List UInt8} {m : Msg} (h : m.1 = 0) (h1 : sless m.2.1 lo = false) (h2 : hi = [] ∨ sless m.2.1 hi = true) : wrP lo hi m = true := by
  simp only [wrP, withinK, Bool.and_eq_true, Bool.or_eq_true, beq_iff_eq, Bool.not_eq_true']; exact ⟨h, h1, h2⟩
theorem wrP_f {lo hi : List UInt8} {m : Msg} (h : ¬ m.1 = 0 ∨ sless m.2.1 lo = true ∨ (¬ hi = [] ∧ sless m.2.1 hi = false)) : wrP lo hi m = false := by
  cases e : wrP lo hi m
  · rfl
  · obtain ⟨h1, h2⟩ := wrP_iff.1 e
    rcases h with h | h | ⟨h, h3⟩
    · exact absurd h1 h
    · rw [within_lo h2] at h; cases h
    · rw [within_hi h2 h] at h3; cases h3
def sMsgKeys : PSpec := lawSpec [MsT, .str, .str]
theorem fMsgKeys : FnOk Try.prog 7 := ⟨_, Try.func7, by decide, rfl⟩
theorem pMsgKeys : PSound Try.prog 7 sMsgKeys := by
  refine psound (T := tab) (S := (spOf [(14, sLightM.spec (lsOf [])), (15, sAwake12.spec (lsOf [])), (29, sKeys.spec (lsOf [])), (19, sWide.spec (lsOf [])), (26, sFor.spec (lsOf []))])) (keep := k7) (by kernel_rfl) tabOk (spCons (pOk pLightM fLightM (by decide) lsNil) (spCons (pOk pAwake12 fAwake12 (by decide) lsNil) (spCons (pOk pKeys fKeys (by decide) lsNil) (spCons (pOk pWide fWide (by decide) lsNil) (spCons (pOk pFor fFor (by decide) lsNil) spNil))))) (by kernel_rfl) Try.func7 (by kernel_rfl) (by decide) fun xs hg hp => ?_
  obtain ⟨l, lo, hi, ⟨⟩⟩ := xs
  obtain ⟨⟨-, hgl⟩, -⟩ := hg
  change List Msg at l
  change List UInt8 at lo hi
  clear hp
  show vfun tab _ k7 Try.f7 [.sl MsgT l, .s lo, .s hi] [] _
  refine Ev.out ?_
  repeat' (first | ((with_reducible refine Ev.mk ?_); conv => whnf) | (with_reducible refine And.intro ?_ ?_) | (intro h))
  all_goals (try simp only [decide_eq_true_eq, decide_eq_false_iff_not, beq_iff_eq, bne_iff_ne, beq_eq_false_iff_ne, bne_eq_false_iff_eq, Int.toNat_natCast, ge_iff_le, gt_iff_lt, Bool.not_eq_true', Bool.not_eq_false', Int.not_lt, Int.not_le, ne_eq] at *)
  all_goals (try dsimp only [Ty.den, Ty.dflt, MsgT, sLightM] at *)
  all_goals (try simp only [eq4, ne4, eq3, ne3, eq2, ne2, Prod.eta, List.length_cons, List.length_nil, List.length_append, Nat.zero_add] at *)
  all_goals (try simp (disch := omega) only [wrap64] at *)
  all_goals try first | exact leafDraw (by kernel_rfl) | exact Leaf.mk trivial | (refine Leaf.mk ?_; omega) | (refine Leaf.mk ?_; unfold maxLen; omega)
  · exact Leaf.mk rfl
  · exact Leaf.mk rfl
  · exact Leaf.mk rfl
  all_goals have hll := lightM_len ‹lightM l 40 = true›
  · exact Leaf.mk (show l.length ≤ 100000 by omega)
  refine LoopVC.on (fun i : Nat => [(8, .i .i64 (cntW (l.take i))), (10, .i .i64 i)]) (fun _ => []) (fun i => i ≤ l.length) (fun i => l.length - i) 0 rfl (by omega) ?_
  intro i hii
  have hw := cntW_le (l.take i)
  have htl : (l.take i).length ≤ i := by rw [List.length_take]; omega
  repeat' (first | ((with_reducible refine Ev.mk ?_); conv => whnf) | (with_reducible refine And.intro ?_ ?_) | (intro h))
  all_goals (try simp only [decide_eq_true_eq, decide_eq_false_iff_not, beq_iff_eq, bne_iff_ne, beq_eq_false_iff_ne, bne_eq_false_iff_eq, Int.toNat_natCast, ge_iff_le, gt_iff_lt, Bool.not_eq_true', Bool.not_eq_false', Int.not_lt, Int.not_le, ne_eq] at *)
  all_goals (try dsimp only [Ty.den, Ty.dflt, MsgT, sWide] at *)
  all_goals (try simp only [eq4, ne4, eq3, ne3, eq2, ne2, Prod.eta, List.length_cons, List.length_nil, List.length_append, Nat.zero_add] at *)
  all_goals (try simp (disch := omega) only [wrap64] at *)
  all_goals try first | exact leafDraw (by kernel_rfl) | exact Leaf.mk trivial | (refine Leaf.mk ?_; omega) | (refine Leaf.mk ?_; unfold maxLen; omega)
  all_goals try first
    | exact Leaf.mk trivial
    | (refine Leaf.mk ⟨i + 1, ?_, by omega, by omega⟩
       first
       | (rw [cntW_in (by omega) ‹_›]; rfl)
       | (rw [cntW_out (by omega) ‹_›]; rfl))
  have hil : l.take i = l := take_all (by omega)
  rw [hil] at *
  have hkl := keysF_len lo hi l
  have hkk := fun j (hj : j < (keysF lo hi l).length) => keysF_in hj
  have hkr := fun i j (hj : j < (keysF lo hi l).length) (hij : i < j) => keysF_lt (i := i) hj hij
  have hks := fun j (hj : j < (keysF lo hi l).length) => cntK_step hj
  have hka := cntK_all lo hi l
  have hk0 := cntK_nil l
  clear hil htl
  rw [show (sKeys.fn (l, lo, hi, ())).1.1 = keysF lo hi l from rfl]
  generalize keysF lo hi l = K at *
  refine LoopVC.on (fun j : Nat => [(9, .i .i64 (cntK l (K.take j))), (11, .i .i64 j)]) (fun _ => []) (fun j => j ≤ K.length) (fun j => K.length - j) 0 (by rw [List.take_zero, hk0]; rfl) (by omega) ?_
  intro j hj
  have hc := cntK_le l (K.take j)
  have hc1 := cntK_le l (K.take (j + 1))
  have hf := List.length_filter_le (about (K.getD j [])) l
  have ho : j < K.length → IntKind.i64.wrap (((cntK l (K.take j) : Nat) : Int) + IntKind.i64.wrap ((((l.filter (about (K.getD j []))).length : Nat) : Int) - ((cntW l : Nat) : Int))) = ((cntK l (K.take (j + 1)) : Nat) : Int) := fun h => by
    have := hks j h
    rw [wrap64 (n := (((l.filter (about (K.getD j []))).length : Nat) : Int) - _) (by omega), wrap64 (by omega)]
    omega
  repeat' (first | ((with_reducible refine Ev.mk ?_); conv => whnf) | (with_reducible refine And.intro ?_ ?_) | (intro h))
  all_goals (try simp only [decide_eq_true_eq, decide_eq_false_iff_not, beq_iff_eq, bne_iff_ne, beq_eq_false_iff_ne, bne_eq_false_iff_eq, Int.toNat_natCast, ge_iff_le, gt_iff_lt, Bool.not_eq_true', Bool.not_eq_false', Int.not_lt, Int.not_le, ne_eq] at *)
  all_goals (try dsimp only [Ty.den, Ty.dflt, MsgT, sFor] at *)
  all_goals (try simp only [eq4, ne4, eq3, ne3, eq2, ne2, Prod.eta, List.length_cons, List.length_nil, List.length_append, Nat.zero_add] at *)
  all_goals (try simp (disch := omega) only [wrap64] at *)
  all_goals try first | exact leafDraw (by kernel_rfl) | exact Leaf.mk trivial | (refine Leaf.mk ?_; omega) | (refine Leaf.mk ?_; unfold maxLen; omega)
  all_goals try first
    | exact Leaf.mk (show l.length ≤ 100000 by omega)
    | exact absurd (within_lo (hkk j (by omega))) (by rw [‹sless (K.getD j []) lo = true›]; simp)
    | exact absurd (within_hi (hkk j (by omega)) ‹¬ hi = []›) (by rw [‹sless (K.getD j []) hi = false›]; simp)
    | (refine absurd (sless_iff.2 (hkr (j - 1) j (by omega) (by omega))) ?_
       rw [show ((j : Int) - 1).toNat = j - 1 by omega] at *
       rw [‹sless (K.getD (j - 1) []) (K.getD j []) = false›]; simp; done)
    | (refine Leaf.mk ⟨j + 1, ?_, by omega, by omega⟩
       rw [ho (by omega)]; rfl)
    | exact Leaf.mk (by omega)
  have hjl : K.take j = K := take_all (by omega)
  rw [hjl, hka] at *
  clear ho hks hkr hkk
  have hrl := cntR_le lo hi l
  refine LoopVC.on (fun i : Nat => [(12, .i .i64 (cntR lo hi (l.take i))), (13, .i .i64 i)]) (fun _ => []) (fun i => i ≤ l.length) (fun i => l.length - i) 0 rfl (by omega) ?_
  intro n hn
  have hw := cntR_le lo hi (l.take n)
  have htl : (l.take n).length ≤ n := by rw [List.length_take]; omega
  repeat' (first | ((with_reducible refine Ev.mk ?_); conv => whnf) | (with_reducible refine And.intro ?_ ?_) | (intro h))
  all_goals (try simp only [decide_eq_true_eq, decide_eq_false_iff_not, beq_iff_eq, bne_iff_ne, beq_eq_false_iff_ne, bne_eq_false_iff_eq, Int.toNat_natCast, ge_iff_le, gt_iff_lt, Bool.not_eq_true', Bool.not_eq_false', Int.not_lt, Int.not_le, ne_eq] at *)
  all_goals (try dsimp only [Ty.den, Ty.dflt, MsgT] at *)
  all_goals (try simp only [eq4, ne4, eq3, ne3, eq2, ne2, Prod.eta, List.length_cons, List.length_nil, List.length_append, Nat.zero_add] at *)
  all_goals (try simp (disch := omega) only [wrap64] at *)
  all_goals try first | exact leafDraw (by kernel_rfl) | exact Leaf.mk trivial | (refine Leaf.mk ?_; omega) | (refine Leaf.mk ?_; unfold maxLen; omega)
  all_goals try first
    | (refine Leaf.mk ⟨n + 1, ?_, by omega, by omega⟩
       first
       | (rw [cntR_in (by omega) (wrP_t ‹_› ‹_› (.inl ‹_›))]; rfl)
       | (rw [cntR_in (by omega) (wrP_t ‹_› ‹_› (.inr ‹_›))]; rfl)
       | (rw [cntR_out (by omega) (wrP_f (.inl ‹_›))]; rfl)
       | (rw [cntR_out (by omega) (wrP_f (.inr (.inl ‹_›)))]; rfl)
       | (rw [cntR_out (by omega) (wrP_f (.inr (.inr ⟨‹_›, ‹_›⟩)))]; rfl))
    | exact Leaf.mk rfl
    | (exfalso
       have e : cntR lo hi (l.take n) = cntR lo hi l := by rw [take_all (show l.length ≤ n by omega)]
       omega)
end Go.Proofs.Ytoedpnniaikfbaa
