import Derived.Test.YtoedpnniaikfbaaH11



set_option linter.unusedVariables false
set_option linter.unusedSimpArgs false
set_option maxRecDepth 8000
set_option maxHeartbeats 4000000
namespace Go.Proofs.Ytoedpnniaikfbaa
open Go.Eng
def sAwake12 : PSpec := ⟨[], [⟨false, [.d .bool]⟩], fun _ => True, fun _ => ((true, ()), ())⟩
theorem fAwake12 : FnOk Try.prog 15 := ⟨_, Try.func15, by decide, rfl⟩
theorem pAwake12 : PSound Try.prog 15 sAwake12 := by
  refine psound (T := (dupT tab)) (S := (spOf [(23, sFold.spec (lsOf [])), (31, sMPut.spec (lsOf [])), (33, sMGet.spec (lsOf [])), (29, sKeys.spec (lsOf [])), (26, sFor.spec (lsOf [])), (19, sWide.spec (lsOf [])), (35, sMSize.spec (lsOf [])), (21, sMCheck.spec (lsOf []))])) (keep := k15) (by kernel_rfl) (dupT_ok tabOk) (spCons (pOk pFold fFold (by decide) lsNil) (spCons (pOk pMPut fMPut (by decide) lsNil) (spCons (pOk pMGet fMGet (by decide) lsNil) (spCons (pOk pKeys fKeys (by decide) lsNil) (spCons (pOk pFor fFor (by decide) lsNil) (spCons (pOk pWide fWide (by decide) lsNil) (spCons (pOk pMSize fMSize (by decide) lsNil) (spCons (pOk pMCheck fMCheck (by decide) lsNil) spNil)))))))) (by kernel_rfl) Try.func15 (by kernel_rfl) (by decide) fun xs hg hp => ?_
  obtain ⟨⟩ := xs
  show vfun (dupT tab) _ k15 Try.f15 [] [] _
  refine Ev.out ?_
  repeat' (first | ((with_reducible refine Ev.mk ?_); conv => whnf) | (with_reducible refine And.intro ?_ ?_) | (intro h; first | exact absurd h (by decide +kernel) | skip))
  all_goals first
    | exact Leaf.mk trivial
    | exact leafDraw (by kernel_rfl)
    | exact Leaf.mk rfl
    | exact Leaf.mk (by decide +kernel)
    | (refine Leaf.mk (show (_ : Nat) ≤ 50000 from ?_); decide +kernel)
    | (refine Leaf.mk (show (_ : Nat) ≤ 100000 from ?_); decide +kernel)
def sMsgPuts : PSpec := lawSpec [MsgT, BT]
theorem lightM_one {m : Msg} (h : lightM [m] 1 = true) : m.2.1.length ≤ 100 ∧ m.2.2.2.2.2.length ≤ 100 := by
  unfold lightM at h
  rw [Bool.and_eq_true] at h
  have := h.2
  rw [List.all_cons, Bool.and_eq_true] at this
  exact of_decide_eq_true this.1
theorem lightM_len {l : List Msg} {k : Int} (h : lightM l k = true) : (l.length : Int) ≤ k := by
  unfold lightM at h
  rw [Bool.and_eq_true] at h
  exact of_decide_eq_true h.1
theorem sameM_self {a : List Msg} (h : sameM a a = false) {P : Prop} : P := absurd h (by rw [sameM, decide_eq_true rfl]; simp)
theorem sameT_self {a : List (List UInt8)} (h : sameT a a = false) {P : Prop} : P := absurd h (by rw [sameT, decide_eq_true rfl]; simp)
theorem sameS_self {a : Stk} (h : sameS a a = false) {P : Prop} : P := absurd h (by rw [sameS, decide_eq_true rfl]; simp)
theorem fMsgPuts : FnOk Try.prog 5 := ⟨_, Try.func5, by decide, rfl⟩
theorem pMsgPuts : PSound Try.prog 5 sMsgPuts := by
  refine psound (T := tab) (S := (spOf [(14, sLightM.spec (lsOf [])), (15, sAwake12.spec (lsOf [])), (31, sMPut.spec (lsOf [])), (32, sMPutR.spec (lsOf [])), (33, sMGet.spec (lsOf [])), (34, sMGetR.spec (lsOf [])), (21, sMCheck.spec (lsOf [])), (22, sMCheckR.spec (lsOf [])), (35, sMSize.spec (lsOf []))])) (keep := k5) (by kernel_rfl) tabOk (spCons (pOk pLightM fLightM (by decide) lsNil) (spCons (pOk pAwake12 fAwake12 (by decide) lsNil) (spCons (pOk pMPut fMPut (by decide) lsNil) (spCons (pOk pMPutR fMPutR (by decide) lsNil) (spCons (pOk pMGet fMGet (by decide) lsNil) (spCons (pOk pMGetR fMGetR (by decide) lsNil) (spCons (pOk pMCheck fMCheck (by decide) lsNil) (spCons (pOk pMCheckR fMCheckR (by decide) lsNil) (spCons (pOk pMSize fMSize (by decide) lsNil) spNil))))))))) (by kernel_rfl) Try.func5 (by kernel_rfl) (by decide) fun xs hg hp => ?_
  obtain ⟨⟨kind, key, txn, ts, gone, val⟩, b, ⟨⟩⟩ := xs
  obtain ⟨-, ⟨hl, -⟩, -⟩ := hg
  change List UInt8 at key
  change List UInt8 at val
  change Int at kind txn ts
  change Bool at gone
  change List Int at b
  change b.length ≤ _ at hl
  have hl := len63 hl
  clear hp
  show vfun tab _ k5 Try.f5 [.agg [.i .u8 kind, .s key, .i .i64 txn, .i .i64 ts, .b gone, .s val], .sl (.int .u8) b] [] _
  refine Ev.out ?_
  repeat' (first | ((with_reducible refine Ev.mk ?_); conv => whnf) | (with_reducible refine And.intro ?_ ?_) | (intro h))
  all_goals (try simp only [decide_eq_true_eq, decide_eq_false_iff_not, beq_iff_eq, bne_iff_ne, beq_eq_false_iff_ne, bne_eq_false_iff_eq, Int.toNat_natCast, ge_iff_le, gt_iff_lt, Bool.not_eq_true', Bool.not_eq_false', Int.not_lt, Int.not_le, ne_eq] at *)
  all_goals (try dsimp only [Ty.den, Ty.dflt, MsgT, sLightM] at *)
  all_goals (try simp only [eq4, ne4, eq3, ne3, eq2, ne2, Prod.eta, List.length_cons, List.length_nil, List.length_append, Nat.zero_add] at *)
  all_goals (try simp (disch := omega) only [wrap64] at *)
  all_goals try first | exact leafDraw (by kernel_rfl) | exact Leaf.mk trivial | (refine Leaf.mk ?_; omega) | (refine Leaf.mk ?_; unfold maxLen; omega)
  all_goals first
    | exact Leaf.mk rfl
    | exact Leaf.mk (show b.length ≤ 100000 by omega)
    | exact absurd rfl h
    | exact absurd rfl (ne6.1 ‹(_ && _) = false›)
def sMsgPicks : PSpec := lawSpec [MsT, .str, .str]
theorem fMsgPicks : FnOk Try.prog 4 := ⟨_, Try.func4, by decide, rfl⟩
theorem pMsgPicks : PSound Try.prog 4 sMsgPicks := by
  refine psound (T := tab) (S := (spOf [(14, sLightM.spec (lsOf [])), (15, sAwake12.spec (lsOf [])), (26, sFor.spec (lsOf [])), (27, sForR.spec (lsOf [])), (25, sSameM.spec (lsOf [])), (29, sKeys.spec (lsOf [])), (30, sKeysR.spec (lsOf [])), (28, sSameT.spec (lsOf []))])) (keep := k4) (by kernel_rfl) tabOk (spCons (pOk pLightM fLightM (by decide) lsNil) (spCons (pOk pAwake12 fAwake12 (by decide) lsNil) (spCons (pOk pFor fFor (by decide) lsNil) (spCons (pOk pForR fForR (by decide) lsNil) (spCons (pOk pSameM fSameM (by decide) lsNil) (spCons (pOk pKeys fKeys (by decide) lsNil) (spCons (pOk pKeysR fKeysR (by decide) lsNil) (spCons (pOk pSameT fSameT (by decide) lsNil) spNil)))))))) (by kernel_rfl) Try.func4 (by kernel_rfl) (by decide) fun xs hg hp => ?_
  obtain ⟨l, lo, hi, ⟨⟩⟩ := xs
  change List Msg at l
  change List UInt8 at lo hi
  clear hg hp
  show vfun tab _ k4 Try.f4 [.sl MsgT l, .s lo, .s hi] [] _
  refine Ev.out ?_
  repeat' (first | ((with_reducible refine Ev.mk ?_); conv => whnf) | (with_reducible refine And.intro ?_ ?_) | (intro h))
  all_goals (try simp only [decide_eq_true_eq, decide_eq_false_iff_not, beq_iff_eq, bne_iff_ne, beq_eq_false_iff_ne, bne_eq_false_iff_eq, Int.toNat_natCast, ge_iff_le, gt_iff_lt, Bool.not_eq_true', Bool.not_eq_false', Int.not_lt, Int.not_le, ne_eq] at *)
  all_goals (try dsimp only [Ty.den, Ty.dflt, MsgT, sLightM] at *)
  all_goals (try simp only [eq4, ne4, eq3, ne3, eq2, ne2, Prod.eta, List.length_cons, List.length_nil, List.length_append, Nat.zero_add] at *)
  all_goals (try simp (disch := omega) only [wrap64] at *)
  all_goals try first | exact leafDraw (by kernel_rfl) | exact Leaf.mk trivial | (refine Leaf.mk ?_; omega) | (refine Leaf.mk ?_; unfold maxLen; omega)
  all_goals first
    | exact Leaf.mk rfl
    | exact Leaf.mk (show l.length ≤ 100000 by have := lightM_len ‹lightM l 40 = true›; omega)
    | exact absurd rfl h
    | exact sameM_self (show sameM (l.filter (about lo)) (l.filter (about lo)) = false from ‹_›)
    | exact sameT_self (show sameT (keysF lo hi l) (keysF lo hi l) = false from ‹_›)
def sMsgFolds : PSpec := lawSpec [StT, MsT]
theorem fMsgFolds : FnOk Try.prog 3 := ⟨_, Try.func3, by decide, rfl⟩
theorem pMsgFolds : PSound Try.prog 3 sMsgFolds := by
  refine psound (T := tab) (S := (spOf [(13, sLight.spec (lsOf [])), (14, sLightM.spec (lsOf [])), (15, sAwake12.spec (lsOf [])), (17, sApply.spec (lsOf [])), (18, sApplyR.spec (lsOf [])), (16, sSSameR.spec (lsOf [])), (19, sWide.spec (lsOf [])), (20, sWideR.spec (lsOf [])), (21, sMCheck.spec (lsOf [])), (22, sMCheckR.spec (lsOf [])), (23, sFold.spec (lsOf [])), (24, sFoldR.spec (lsOf []))])) (keep := k3) (by kernel_rfl) tabOk (spCons (pOk pLight fLight (by decide) lsNil) (spCons (pOk pLightM fLightM (by decide) lsNil) (spCons (pOk pAwake12 fAwake12 (by decide) lsNil) (spCons (pOk pApply fApply (by decide) lsNil) (spCons (pOk pApplyR fApplyR (by decide) lsNil) (spCons (pOk pSSameR fSSameR (by decide) lsNil) (spCons (pOk pWide fWide (by decide) lsNil) (spCons (pOk pWideR fWideR (by decide) lsNil) (spCons (pOk pMCheck fMCheck (by decide) lsNil) (spCons (pOk pMCheckR fMCheckR (by decide) lsNil) (spCons (pOk pFold fFold (by decide) lsNil) (spCons (pOk pFoldR fFoldR (by decide) lsNil) spNil)))))))))))) (by kernel_rfl) Try.func3 (by kernel_rfl) (by decide) fun xs hg hp => ?_
  obtain ⟨⟨skey, xs⟩, l, ⟨⟩⟩ := xs
  change List UInt8 at skey
  change List Ver at xs
  change List Msg at l
  clear hg hp
  show vfun tab _ k3 Try.f3 [.agg [.s skey, .sl VerT xs], .sl MsgT l] [] _
  refine Ev.out ?_
  repeat' (first | ((with_reducible refine Ev.mk ?_); conv => whnf) | (with_reducible refine And.intro ?_ ?_) | (intro h))
  all_goals (try simp only [decide_eq_true_eq, decide_eq_false_iff_not, beq_iff_eq, bne_iff_ne, beq_eq_false_iff_ne, bne_eq_false_iff_eq, Int.toNat_natCast, ge_iff_le, gt_iff_lt, Bool.not_eq_true', Bool.not_eq_false', Int.not_lt, Int.not_le, ne_eq] at *)
  all_goals (try dsimp only [Ty.den, Ty.dflt, MsgT, VerT, sLightM, sLight] at *)
  all_goals (try simp only [eq4, ne4, eq3, ne3, eq2, ne2, Prod.eta, List.length_cons, List.length_nil, List.length_append, Nat.zero_add] at *)
  all_goals (try simp (disch := omega) only [wrap64] at *)
  all_goals try first | exact leafDraw (by kernel_rfl) | exact Leaf.mk trivial | (refine Leaf.mk ?_; omega) | (refine Leaf.mk ?_; unfold maxLen; omega)
  · exact Leaf.mk rfl
  · exact Leaf.mk rfl
  all_goals
    have hx := (light_of ‹light (skey, xs) = true›).2
    have hll := lightM_len ‹lightM l 20 = true›
    dsimp only at hx
    try simp only [List.nil_append] at *
  · exact Leaf.mk (by omega)
  · exact Leaf.mk (by unfold maxLen; omega)
  refine LoopVC.weak [(.cell 1 1, .frz)] (fun i : Nat => [(6, .i .i64 i)]) (fun _ => []) (fun i => i ≤ l.length) (fun i => l.length - i) 0 (Ev.mk ?_)
  (conv => whnf)
  refine ⟨Leaf.mk ?_, Leaf.mk ?_, ?_⟩
  · rfl
  · omega
  intro i hi
  repeat' (first | ((with_reducible refine Ev.mk ?_); conv => whnf) | (with_reducible refine And.intro ?_ ?_) | (intro h))
  all_goals (try simp only [decide_eq_true_eq, decide_eq_false_iff_not, beq_iff_eq, bne_iff_ne, beq_eq_false_iff_ne, bne_eq_false_iff_eq, Int.toNat_natCast, ge_iff_le, gt_iff_lt, Bool.not_eq_true', Bool.not_eq_false', Int.not_lt, Int.not_le, ne_eq] at *)
  all_goals (try dsimp only [Ty.den, Ty.dflt, MsgT, VerT] at *)
  all_goals (try simp only [eq4, ne4, eq3, ne3, eq2, ne2, Prod.eta, List.length_cons, List.length_nil, List.length_append, Nat.zero_add] at *)
  all_goals (try simp (disch := omega) only [wrap64] at *)
  all_goals try first | exact leafDraw (by kernel_rfl) | exact Leaf.mk trivial | (refine Leaf.mk ?_; omega) | (refine Leaf.mk ?_; unfold maxLen; omega)
  all_goals first
    | exact Leaf.mk rfl
    | exact Leaf.mk (show xs.length ≤ 100000 by omega)
    | exact Leaf.mk (show xs.length + l.length ≤ 50000 by omega)
    | exact absurd rfl h
    | exact sameS_self (show sameS (applyM (skey, xs) (l.getD i msg0)) (applyM (skey, xs) (l.getD i msg0)) = false from ‹_›)
    | exact sameS_self (show sameS (foldM (skey, xs) l) (foldM (skey, xs) l) = false from ‹_›)
    | exact sameS_self (show sameS (skey, xs) (skey, xs) = false from ‹_›)
    | exact Leaf.mk ⟨i + 1, rfl, by omega, by omega⟩
end Go.Proofs.Ytoedpnniaikfbaa
