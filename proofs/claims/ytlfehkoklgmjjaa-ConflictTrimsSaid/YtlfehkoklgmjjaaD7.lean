import Derived.Test.YtlfehkoklgmjjaaD6

set_option linter.unusedVariables false
set_option linter.unusedSimpArgs false
set_option maxRecDepth 8000
namespace Go.Proofs.Ytlfehkoklgmjjaa
open Go.Eng
theorem light22_of {l : List Ent} (h : light22 l = true) : l.length ≤ 30 ∧ ∀ i, i < l.length → (l.getD i (0, [])).2.length ≤ 20 := by
  unfold light22 at h
  rw [Bool.and_eq_true, decide_eq_true_iff, List.all_eq_true] at h
  exact ⟨h.1, fun i hi => of_decide_eq_true (h.2 _ (getD_mem (0, []) hi))⟩
theorem note_len (l : List Ent) (t : Int) (k : Tx) : (note l t k).length ≤ l.length + 1 := by unfold note; split <;> simp
theorem trim_len (l : List Ent) (t : Int) : (trim l t).length ≤ l.length := List.length_filter_le _ _
def sConflictLogs : PSpec := lawSpec [.slice EntT, TxT, .int .i64]
theorem fConflictLogs : FnOk Try.prog 3 := ⟨_, Try.func3, by decide, rfl⟩
theorem pConflictLogs : PSound Try.prog 3 sConflictLogs := by
  refine psound (T := tab) (S := (spOf [(15, sLight22.spec (lsOf [])), (16, sAwake22.spec (lsOf [])), (17, sOwn22.spec (lsOf [])), (18, sNote.spec (lsOf [])), (19, sSame22.spec (lsOf [])), (20, sBack22.spec (lsOf [])), (21, sNoteR.spec (lsOf [])), (22, sTrim.spec (lsOf [])), (23, sTrimR.spec (lsOf [])), (24, sCheck22.spec (lsOf [])), (25, sCheck22R.spec (lsOf [])), (26, sFirst.spec (lsOf [])), (27, sFirstR.spec (lsOf []))])) (keep := k3) (by kernel_rfl) tabOk (spCons (pOk pLight22 fLight22 (by decide) lsNil) (spCons (pOk pAwake22 fAwake22 (by decide) lsNil) (spCons (pOk pOwn22 fOwn22 (by decide) lsNil) (spCons (pOk pNote fNote (by decide) lsNil) (spCons (pOk pSame22 fSame22 (by decide) lsNil) (spCons (pOk pBack22 fBack22 (by decide) lsNil) (spCons (pOk pNoteR fNoteR (by decide) lsNil) (spCons (pOk pTrim fTrim (by decide) lsNil) (spCons (pOk pTrimR fTrimR (by decide) lsNil) (spCons (pOk pCheck22 fCheck22 (by decide) lsNil) (spCons (pOk pCheck22R fCheck22R (by decide) lsNil) (spCons (pOk pFirst fFirst (by decide) lsNil) (spCons (pOk pFirstR fFirstR (by decide) lsNil) spNil))))))))))))) (by kernel_rfl) Try.func3 (by kernel_rfl) (by decide) fun xs hg hp => ?_
  obtain ⟨xs, ks, at', ⟨⟩⟩ := xs
  obtain ⟨⟨hl, hx⟩, ⟨hl2, -⟩, hg⟩ := hg
  change List Ent at xs
  change List (List UInt8) at ks
  change Int at at'
  change xs.length ≤ _ at hl
  change ks.length ≤ _ at hl2
  have hl := len63 hl
  have hl2 := len63 hl2
  clear hp hx hg
  show vfun tab _ k3 Try.f3 [.sl EntT xs, .sl .str ks, .i .i64 at'] [] _
  refine Ev.out ?_
  repeat' (first | ((with_reducible refine Ev.mk ?_); conv => whnf) | (with_reducible refine And.intro ?_ ?_) | (intro h))
  all_goals (try simp only [decide_eq_true_eq, decide_eq_false_iff_not, beq_iff_eq, bne_iff_ne, beq_eq_false_iff_ne, bne_eq_false_iff_eq, Int.toNat_natCast, ge_iff_le, gt_iff_lt, Bool.not_eq_true', Bool.not_eq_false', Int.not_lt, Int.not_le, ne_eq] at *)
  all_goals (try dsimp only [Ty.den, Ty.dflt, EntT, sLight22] at *)
  all_goals (try simp only [eq4, ne4, eq3, ne3, eq2, ne2, Prod.eta, List.length_cons, List.length_nil, List.length_append, Nat.zero_add] at *)
  all_goals (try simp (disch := omega) only [wrap64] at *)
  all_goals try first | exact leafDraw (by kernel_rfl) | exact Leaf.mk trivial | (refine Leaf.mk ?_; omega) | (refine Leaf.mk ?_; unfold maxLen; omega)
  all_goals try exact Leaf.mk rfl
  all_goals
    obtain ⟨h30, h20⟩ := light22_of ‹light22 xs = true›
    have hk20 : ks.length ≤ 20 := by omega
    have hn := note_len xs at' ks
    have ht := trim_len xs at'
    first
    | exact Leaf.mk (show xs.length * 32 ≤ 140737488355328 ∧ ∀ i, i < xs.length → (xs.getD i (0, [])).2.length * 16 ≤ 140737488355328 from ⟨by omega, fun i hi => by have := h20 i hi; omega⟩)
    | exact Leaf.mk (show xs.length ≤ 1000 ∧ ks.length ≤ 1000 by omega)
    | exact Leaf.mk (show xs.length ≤ 1000 by omega)
    | exact Leaf.mk (show xs.length ≤ 2000 by omega)
    | exact Leaf.mk (show (note xs at' ks).length ≤ 2000 by omega)
    | exact Leaf.mk (show (trim xs at').length ≤ 2000 by omega)
    | exact absurd rfl h
    | exact decSelf (α := List Ent) (a := note xs at' ks) ‹(sSame22.fn ((sBack22.fn ((sNote.fn ((sOwn22.fn (xs, ())).1.1, at', ks, ())).1.1, ())).1.1, (sNoteR.fn (xs, at', ks, ())).1.1, ())).1.1 = false›
    | exact decSelf (α := List Ent) (a := trim xs at') ‹(sSame22.fn ((sBack22.fn ((sTrim.fn ((sOwn22.fn (xs, ())).1.1, at', ())).1.1, ())).1.1, (sTrimR.fn (xs, at', ())).1.1, ())).1.1 = false›
    | exact decSelf (α := List Ent) (a := xs) ‹(sSame22.fn ((sBack22.fn ((sOwn22.fn (xs, ())).1.1, ())).1.1, xs, ())).1.1 = false›
def sConflictSets : PSpec := lawSpec [TxT, TxT, .str]
theorem fConflictSets : FnOk Try.prog 4 := ⟨_, Try.func4, by decide, rfl⟩
theorem pConflictSets : PSound Try.prog 4 sConflictSets := by
  refine psound (T := tab) (S := (spOf [(16, sAwake22.spec (lsOf [])), (28, sAdd.spec (lsOf [])), (30, sAddR.spec (lsOf [])), (29, sSameTexts.spec (lsOf [])), (31, sMeet.spec (lsOf [])), (32, sMeetR.spec (lsOf []))])) (keep := k4) (by kernel_rfl) tabOk (spCons (pOk pAwake22 fAwake22 (by decide) lsNil) (spCons (pOk pAdd fAdd (by decide) lsNil) (spCons (pOk pAddR fAddR (by decide) lsNil) (spCons (pOk pSameTexts fSameTexts (by decide) lsNil) (spCons (pOk pMeet fMeet (by decide) lsNil) (spCons (pOk pMeetR fMeetR (by decide) lsNil) spNil)))))) (by kernel_rfl) Try.func4 (by kernel_rfl) (by decide) fun xs hg hp => ?_
  obtain ⟨xs, ys, k, ⟨⟩⟩ := xs
  obtain ⟨⟨hl, -⟩, ⟨hl2, -⟩, hg⟩ := hg
  change List (List UInt8) at xs
  change List (List UInt8) at ys
  change List UInt8 at k
  change xs.length ≤ _ at hl
  change ys.length ≤ _ at hl2
  have hl := len63 hl
  have hl2 := len63 hl2
  clear hp hg
  show vfun tab _ k4 Try.f4 [.sl .str xs, .sl .str ys, .s k] [] _
  refine Ev.out ?_
  repeat' (first | ((with_reducible refine Ev.mk ?_); conv => whnf) | (with_reducible refine And.intro ?_ ?_) | (intro h))
  all_goals (try simp only [decide_eq_true_eq, decide_eq_false_iff_not, beq_iff_eq, bne_iff_ne, beq_eq_false_iff_ne, bne_eq_false_iff_eq, Int.toNat_natCast, ge_iff_le, gt_iff_lt, Bool.not_eq_true', Bool.not_eq_false', Int.not_lt, Int.not_le, ne_eq] at *)
  all_goals (try dsimp only [Ty.den, Ty.dflt, TxT] at *)
  all_goals (try simp only [eq4, ne4, eq3, ne3, eq2, ne2, Prod.eta, List.length_cons, List.length_nil, List.length_append, Nat.zero_add] at *)
  all_goals (try simp (disch := omega) only [wrap64] at *)
  all_goals try first | exact leafDraw (by kernel_rfl) | exact Leaf.mk trivial | (refine Leaf.mk ?_; omega) | (refine Leaf.mk ?_; unfold maxLen; omega)
  all_goals try exact Leaf.mk rfl
  · exact Leaf.mk (show xs.length ≤ 1000 by omega)
  · exact Leaf.mk (show xs.length ≤ 1000 by omega)
  · have ha := add_len xs k
    refine LoopVC.on (fun a : Nat × Tx => [(10, .i .i64 a.1)]) (fun a => [(1, .arr 9 .str a.2)]) (fun a => a.1 ≤ a.2.length ∧ a.2.length ≤ 21) (fun a => a.2.length - a.1) (0, add xs k) rfl ⟨by simp, by show (add xs k).length ≤ 21; omega⟩ ?_
    intro ⟨i, l⟩ ⟨hi, hl⟩
    dsimp only at hi hl ⊢
    repeat' (first | ((with_reducible refine Ev.mk ?_); conv => whnf) | (with_reducible refine And.intro ?_ ?_) | (intro h))
    all_goals (try simp only [decide_eq_true_eq, decide_eq_false_iff_not, beq_iff_eq, bne_iff_ne, beq_eq_false_iff_ne, bne_eq_false_iff_eq, Int.toNat_natCast, ge_iff_le, gt_iff_lt, Bool.not_eq_true', Bool.not_eq_false', Int.not_lt, Int.not_le, ne_eq] at *)
    all_goals (try dsimp only [Ty.den, Ty.dflt, TxT] at *)
    all_goals (try simp only [eq4, ne4, eq3, ne3, eq2, ne2, Prod.eta, List.length_cons, List.length_nil, List.length_append, Nat.zero_add] at *)
    all_goals (try simp (disch := omega) only [wrap64] at *)
    all_goals try first | exact leafDraw (by kernel_rfl) | exact Leaf.mk trivial | (refine Leaf.mk ?_; omega) | (refine Leaf.mk ?_; unfold maxLen; omega)
    all_goals first
      | exact Leaf.mk rfl
      | exact absurd rfl h
      | exact decSelf (α := Tx) (a := xs) ‹(sSameTexts.fn ([] ++ xs, xs, ())).1.1 = false›
      | exact Leaf.mk ⟨(i + 1, l.set i [63]), rfl, ⟨by simp; omega, by simpa using hl⟩, by simp; omega⟩
  · exact decSelf (α := Tx) (a := xs) ‹(sSameTexts.fn ([] ++ xs, xs, ())).1.1 = false›
  · exact decSelf (α := Tx) (a := add xs k) ‹(sSameTexts.fn ((sAdd.fn ([] ++ xs, k, ())).1.1, (sAddR.fn (xs, k, ())).1.1, ())).1.1 = false›
end Go.Proofs.Ytlfehkoklgmjjaa
