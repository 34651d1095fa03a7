import Derived.Test.YtlfehkoklgmjjaaF9

set_option linter.unusedVariables false
set_option linter.unusedSimpArgs false
set_option maxRecDepth 8000
set_option maxHeartbeats 4000000
namespace Go.Proofs.Ytlfehkoklgmjjaa
open Go.Eng
def sStackStays : PSpec := lawSpec [StT, .slice AskT]
theorem fStackStays : FnOk Try.prog 9 := ⟨_, Try.func9, by decide, rfl⟩
theorem pStackStays : PSound Try.prog 9 sStackStays := by
  refine psound (T := tab) (S := (spOf [(45, sLight.spec (lsOf [])), (46, sAwake11.spec (lsOf [])), (53, sCheck.spec (lsOf [])), (54, sMay.spec (lsOf [])), (55, sDo.spec (lsOf [])), (47, sSPut.spec (lsOf [])), (49, sSGet.spec (lsOf [])), (52, sSSame.spec (lsOf []))])) (keep := k9) (by kernel_rfl) tabOk (spCons (pOk pLight fLight (by decide) lsNil) (spCons (pOk pAwake11 fAwake11 (by decide) lsNil) (spCons (pOk pCheck fCheck (by decide) lsNil) (spCons (pOk pMay fMay (by decide) lsNil) (spCons (pOk pDo fDo (by decide) lsNil) (spCons (pOk pSPut fSPut (by decide) lsNil) (spCons (pOk pSGet fSGet (by decide) lsNil) (spCons (pOk pSSame fSSame (by decide) lsNil) spNil)))))))) (by kernel_rfl) Try.func9 (by kernel_rfl) (by decide) fun xs hg hp => ?_
  obtain ⟨⟨key, xs⟩, as', ⟨⟩⟩ := xs
  obtain ⟨-, ⟨hl, -⟩, -⟩ := hg
  change List UInt8 at key
  change List Ver at xs
  change List Ask at as'
  change as'.length ≤ _ at hl
  have hl := len63 hl
  clear hp
  show vfun tab _ k9 Try.f9 [.agg [.s key, .sl VerT xs], .sl AskT as'] [] _
  refine Ev.out ?_
  repeat' (first | ((with_reducible refine Ev.mk ?_); conv => whnf) | (with_reducible refine And.intro ?_ ?_) | (intro h))
  all_goals (try simp only [decide_eq_true_eq, decide_eq_false_iff_not, beq_iff_eq, bne_iff_ne, beq_eq_false_iff_ne, bne_eq_false_iff_eq, Int.toNat_natCast, ge_iff_le, gt_iff_lt, Bool.not_eq_true', Bool.not_eq_false', Int.not_lt, Int.not_le, ne_eq] at *)
  all_goals (try dsimp only [Ty.den, Ty.dflt, VerT, sLight, sCheck] at *)
  all_goals (try simp only [eq4, ne4, eq3, ne3, eq2, ne2, Prod.eta, List.length_cons, List.length_nil, List.length_append, Nat.zero_add] at *)
  all_goals (try simp (disch := omega) only [wrap64] at *)
  all_goals try first | exact leafDraw (by kernel_rfl) | exact Leaf.mk trivial | (refine Leaf.mk ?_; omega) | (refine Leaf.mk ?_; unfold maxLen; omega)
  all_goals try exact Leaf.mk rfl
  refine LoopVC.on (fun a : Nat × Stk => [(5, .i .i64 a.1)]) (fun a => [(0, .box [.s a.2.1, .sl VerT a.2.2])]) (fun a => a.1 ≤ as'.length ∧ check a.2 = 0) (fun a => as'.length - a.1) (0, (key, xs)) rfl ⟨by simp, by assumption⟩ ?_
  intro ⟨i, key', xs'⟩ ⟨hi, hc⟩
  dsimp only at hi hc ⊢
  have h8 := (check_ok.1 hc).len
  dsimp only at h8
  repeat' (first | ((with_reducible refine Ev.mk ?_); conv => whnf) | (with_reducible refine And.intro ?_ ?_) | (intro h))
  all_goals (try simp only [decide_eq_true_eq, decide_eq_false_iff_not, beq_iff_eq, bne_iff_ne, beq_eq_false_iff_ne, bne_eq_false_iff_eq, Int.toNat_natCast, ge_iff_le, gt_iff_lt, Bool.not_eq_true', Bool.not_eq_false', Int.not_lt, Int.not_le, ne_eq] at *)
  all_goals (try dsimp only [Ty.den, Ty.dflt, VerT, sLight, sCheck, sMay, sDo, sSPut, sSGet] at *)
  all_goals (try simp only [eq4, ne4, eq3, ne3, eq2, ne2, Prod.eta, List.length_cons, List.length_nil, List.length_append, Nat.zero_add] at *)
  all_goals (try simp (disch := omega) only [wrap64] at *)
  all_goals try first | exact leafDraw (by kernel_rfl) | exact Leaf.mk trivial | (refine Leaf.mk ?_; omega) | (refine Leaf.mk ?_; unfold maxLen; omega)
  · exact Leaf.mk rfl
  · exact absurd (do_ok hc ‹mayA _ = true›) h
  · exact Leaf.mk ⟨(i + 1, doS (key', xs') (as'.getD i (0, (0, 0, false, []), 0))), rfl, ⟨by show i + 1 ≤ _; omega, h⟩, by show _ - (i + 1) < _; omega⟩
  all_goals
    have hP : putR11 (key', xs') = (putS (key', xs'), 0) := if_pos hc
    have hl := putS_len hc
    have hG := getS_put hc rfl
    have hM := getS_more hc
    have hS : sameS (key', xs') (key', xs') = true := decide_eq_true rfl
    simp only [hP, hG, hM, List.nil_append] at *
  all_goals first
    | exact Leaf.mk rfl
    | (refine Leaf.mk ?_; omega)
    | (refine Leaf.mk ?_; unfold maxLen; omega)
    | exact absurd trivial h
    | exact absurd (hS.symm.trans ‹(sSSame.fn ((key', xs'), (key', xs'), ())).1.1 = false›) (by simp)
end Go.Proofs.Ytlfehkoklgmjjaa
