import Derived.Test.YtiklpaemkeadjaaA4

set_option linter.unusedVariables false
set_option linter.unusedSimpArgs false
set_option maxRecDepth 4000
namespace Go.Proofs.Ytiklpaemkeadjaa
open Go.Eng
def sVisibleReads : PSpec := lawSpec [StT, .int .i64, .int .i64]
theorem fVisibleReads : FnOk Try.prog 3 := ⟨_, Try.func3, by decide, rfl⟩
theorem pVisibleReads : PSound Try.prog 3 sVisibleReads := by
  refine psound (T := tab) (S := (spOf [(15, sLight.spec (lsOf [])), (16, sAwake13.spec (lsOf [])), (17, sRead.spec (lsOf [])), (18, sReadR.spec (lsOf [])), (19, sWhich.spec (lsOf [])), (20, sWhichR.spec (lsOf [])), (21, sNewer.spec (lsOf [])), (22, sNewerR.spec (lsOf [])), (23, sRoom.spec (lsOf [])), (24, sRoomR.spec (lsOf [])), (25, sSettled.spec (lsOf [])), (26, sSettledR.spec (lsOf []))])) (keep := k3) (by kernel_rfl) tabOk (spCons (pOk pLight fLight (by decide) lsNil) (spCons (pOk pAwake13 fAwake13 (by decide) lsNil) (spCons (pOk pRead fRead (by decide) lsNil) (spCons (pOk pReadR fReadR (by decide) lsNil) (spCons (pOk pWhich fWhich (by decide) lsNil) (spCons (pOk pWhichR fWhichR (by decide) lsNil) (spCons (pOk pNewer fNewer (by decide) lsNil) (spCons (pOk pNewerR fNewerR (by decide) lsNil) (spCons (pOk pRoom fRoom (by decide) lsNil) (spCons (pOk pRoomR fRoomR (by decide) lsNil) (spCons (pOk pSettled fSettled (by decide) lsNil) (spCons (pOk pSettledR fSettledR (by decide) lsNil) spNil)))))))))))) (by kernel_rfl) Try.func3 (by kernel_rfl) (by decide) fun xs hg hp => ?_
  obtain ⟨⟨key, xs⟩, me, at', ⟨⟩⟩ := xs
  change List UInt8 at key
  change List Ver at xs
  change Int at me
  change Int at at'
  show vfun tab _ k3 Try.f3 [.agg [.s key, .sl VerT xs], .i .i64 me, .i .i64 at'] [] _
  refine Ev.out ?_
  repeat' (first | ((with_reducible refine Ev.mk ?_); conv => whnf) | (with_reducible refine And.intro ?_ ?_) | (intro h))
  all_goals first
    | exact Leaf.mk trivial
    | exact leafDraw (by kernel_rfl)
    | exact Leaf.mk rfl
    | exact eqSelf h
def sVisibleScans : PSpec := lawSpec [.slice StT, .int .i64, .int .i64]
theorem fVisibleScans : FnOk Try.prog 4 := ⟨_, Try.func4, by decide, rfl⟩
theorem pVisibleScans : PSound Try.prog 4 sVisibleScans := by
  refine psound (T := tab) (S := (spOf [(15, sLight.spec (lsOf [])), (16, sAwake13.spec (lsOf [])), (28, sScan.spec (lsOf [])), (29, sScanR.spec (lsOf [])), (27, sSamePairs.spec (lsOf []))])) (keep := k4) (by kernel_rfl) tabOk (spCons (pOk pLight fLight (by decide) lsNil) (spCons (pOk pAwake13 fAwake13 (by decide) lsNil) (spCons (pOk pScan fScan (by decide) lsNil) (spCons (pOk pScanR fScanR (by decide) lsNil) (spCons (pOk pSamePairs fSamePairs (by decide) lsNil) spNil))))) (by kernel_rfl) Try.func4 (by kernel_rfl) (by decide) fun xs hg hp => ?_
  obtain ⟨xs, me, at', ⟨⟩⟩ := xs
  obtain ⟨⟨hl, hx⟩, hg⟩ := hg
  change List Stk at xs
  change Int at me
  change Int at at'
  have hl := len63 hl
  clear hp hx hg
  show vfun tab _ k4 Try.f4 [.sl StT xs, .i .i64 me, .i .i64 at'] [] _
  refine Ev.out ?_
  repeat' (first | ((with_reducible refine Ev.mk ?_); conv => whnf) | (with_reducible refine And.intro ?_ ?_) | (intro h))
  all_goals (try simp only [decide_eq_true_eq, decide_eq_false_iff_not, beq_iff_eq, bne_iff_ne, beq_eq_false_iff_ne, bne_eq_false_iff_eq, Int.toNat_natCast, ge_iff_le, gt_iff_lt, Bool.not_eq_true', Bool.not_eq_false', Int.not_lt, Int.not_le, ne_eq] at *)
  all_goals (try dsimp only [Ty.den, Ty.dflt, sLight] at *)
  all_goals (try simp only [eq4, ne4, eq3, ne3, eq2, ne2, Prod.eta, List.length_cons, List.length_nil, List.length_append, Nat.zero_add] at *)
  all_goals (try simp (disch := omega) only [wrap64] at *)
  all_goals try first | exact leafDraw (by kernel_rfl) | exact Leaf.mk trivial | (refine Leaf.mk ?_; omega) | (refine Leaf.mk ?_; unfold maxLen; omega)
  all_goals try exact Leaf.mk rfl
  refine LoopVC.on (fun i : Nat => [(7, .i .i64 i)]) (fun _ => []) (fun i => i ≤ xs.length) (fun i => xs.length - i) 0 rfl (by omega) ?_
  intro i hi
  repeat' (first | ((with_reducible refine Ev.mk ?_); conv => whnf) | (with_reducible refine And.intro ?_ ?_) | (intro h))
  all_goals (try simp only [decide_eq_true_eq, decide_eq_false_iff_not, beq_iff_eq, bne_iff_ne, beq_eq_false_iff_ne, bne_eq_false_iff_eq, Int.toNat_natCast, ge_iff_le, gt_iff_lt, Bool.not_eq_true', Bool.not_eq_false', Int.not_lt, Int.not_le, ne_eq] at *)
  all_goals (try dsimp only [Ty.den, Ty.dflt, sLight] at *)
  all_goals (try simp only [eq4, ne4, eq3, ne3, eq2, ne2, Prod.eta, List.length_cons, List.length_nil, List.length_append, Nat.zero_add] at *)
  all_goals (try simp (disch := omega) only [wrap64] at *)
  all_goals try first | exact leafDraw (by kernel_rfl) | exact Leaf.mk trivial | (refine Leaf.mk ?_; omega) | (refine Leaf.mk ?_; unfold maxLen; omega)
  all_goals first
    | exact Leaf.mk (show xs.length ≤ 1000 by omega)
    | exact Leaf.mk ⟨i + 1, rfl, by omega, by omega⟩
    | exact Leaf.mk rfl
    | (refine decSelf (a := scan xs me at') ?_; assumption)
end Go.Proofs.Ytiklpaemkeadjaa
