import Derived.Test.YtkmfjlfejdoehaaGreatQ10
/- Texts, one behind the other. -/
set_option linter.unusedVariables false
set_option linter.unusedSimpArgs false
set_option maxRecDepth 8000
set_option maxHeartbeats 4000000
namespace Go.Proofs.YtkmfjlfejdoehaaGreat
open Go.Eng
theorem fApply1i : FnOk Tryz.prog 68 := ⟨_, Tryz.func68, by decide, rfl⟩
noncomputable def iApply1i : Eng.Spec := inl tab (spOf [(69, sApply.spec (lsOf []))]) k68 Tryz.f68
theorem pApply1i : SpecOk Tryz.prog 68 iApply1i := inl_ok tabOk (spCons (pOk pApply fApply (by decide) lsNil) spNil) (by kernel_rfl) Tryz.func68 (by kernel_rfl)
theorem fDoneA : FnOk Tryz.prog 67 := ⟨_, Tryz.func67, by decide, rfl⟩
noncomputable def iDoneA : Eng.Spec := inl tab (spOf [(68, iApply1i)]) k67 Tryz.f67
theorem pDoneA : SpecOk Tryz.prog 67 iDoneA := inl_ok tabOk (spCons (.inl ⟨pApply1i, fApply1i⟩) spNil) (by kernel_rfl) Tryz.func67 (by kernel_rfl)
def baseL (l : List Stk) (m : Msg) : List Stk := if m.1 = 0 ∧ mcheck m = 0 then withF l m.2.1 else l
def applyL (l : List Stk) (m : Msg) : List Stk := ((baseL l m).map fun s => applyM s m).filter fullP
theorem withF_len' (X : List Stk) (k : List UInt8) : (withF X k).length ≤ X.length + 1 ∧ ∀ s ∈ withF X k, s ∈ X ∨ s = (k, []) := by
  have hle := lastL_le k X X.length
  rw [withF]
  split
  · refine ⟨by simp only [List.length_append, List.length_cons, List.length_take, List.length_drop]; omega, fun s hs => ?_⟩
    rcases List.mem_append.1 hs with hs | hs
    · exact .inl (List.mem_of_mem_take hs)
    · rcases List.mem_cons.1 hs with hs | hs
      · exact .inr hs
      · exact .inl (List.mem_of_mem_drop hs)
  · exact ⟨Nat.le_succ _, fun s hs => .inl hs⟩
theorem baseL_ok {l : List Stk} (m : Msg) (hl : l.length ≤ 1000) (hs : ∀ s ∈ l, s.2.length ≤ 1000) : (baseL l m).length ≤ 1001 ∧ ∀ s ∈ baseL l m, s.2.length ≤ 1000 := by
  rw [baseL]
  split
  · have h := withF_len' l m.2.1
    refine ⟨by omega, fun s h1 => ?_⟩
    rcases h.2 s h1 with h2 | rfl
    · exact hs s h2
    · exact Nat.zero_le _
  · exact ⟨by omega, hs⟩
def sLApply : PSpec := ⟨[.st SsT, .d MsgT], [⟨true, [.d SsT]⟩], fun x => List.length x.1 ≤ 1000 ∧ ∀ s ∈ x.1, List.length s.2 ≤ 1000, fun x => ((applyL x.1 x.2.1, ()), ())⟩
theorem fLApply : FnOk Tryz.prog 15 := ⟨_, Tryz.func15, by decide, rfl⟩
theorem pLApply : PSound Tryz.prog 15 sLApply := by
  refine psound (T := tab) (S := (spOf [(65, sMCheck.spec (lsOf [])), (66, sLWith.spec (lsOf [])), (67, iDoneA), (68, iApply1i), (69, sApply.spec (lsOf []))])) (keep := k15) (by kernel_rfl) tabOk (spCons (pOk pMCheck fMCheck (by decide) lsNil) (spCons (pOk pLWith fLWith (by decide) lsNil) (spCons (.inl ⟨pDoneA, fDoneA⟩) (spCons (.inl ⟨pApply1i, fApply1i⟩) (spCons (pOk pApply fApply (by decide) lsNil) spNil))))) (by kernel_rfl) Tryz.func15 (by kernel_rfl) (by decide) fun xs hg hp => ?_
  obtain ⟨l, ⟨kind, key, txn, ts, gone, val⟩, ⟨⟩⟩ := xs
  change List Stk at l
  change l.length ≤ 1000 ∧ ∀ s ∈ l, List.length s.2 ≤ 1000 at hp
  obtain ⟨hl, hs⟩ := hp
  change List UInt8 at key
  change List UInt8 at val
  change Int at kind txn ts
  change Bool at gone
  clear hg
  show vfun tab _ k15 Tryz.f15 [.agg [.sl StT l], .agg [.i .u8 kind, .s key, .i .i64 txn, .i .i64 ts, .b gone, .s val]] [] _
  refine Ev.out ?_
  repeat' (first | ((with_reducible refine Ev.mk ?_); conv => whnf) | (with_reducible refine And.intro ?_ ?_) | (intro h))
  all_goals (try simp only [decide_eq_true_eq, decide_eq_false_iff_not, beq_iff_eq, bne_iff_ne, beq_eq_false_iff_ne, bne_eq_false_iff_eq, Int.toNat_natCast, ge_iff_le, gt_iff_lt, Bool.not_eq_true', Bool.not_eq_false', Int.not_lt, Int.not_le, ne_eq] at *)
  all_goals (try dsimp only [Ty.den, Ty.dflt, StT, MsgT] at *)
  all_goals (try simp only [eq4, ne4, eq3, ne3, eq2, ne2, Prod.eta, List.length_cons, List.length_nil, List.length_append, Nat.zero_add] at *)
  all_goals (try simp (disch := omega) only [wrap64] at *)
  all_goals try first | exact leafDraw (by kernel_rfl) | exact Leaf.mk trivial | (refine Leaf.mk ?_; omega) | (refine Leaf.mk ?_; unfold maxLen; omega)
  · exact Leaf.mk (show l.length ≤ 100000 by omega)
  all_goals
    have hB := baseL_ok (l := l) (kind, key, txn, ts, gone, val) hl hs
    have hA : applyL l (kind, key, txn, ts, gone, val) = ((baseL l (kind, key, txn, ts, gone, val)).map fun s => applyM s (kind, key, txn, ts, gone, val)).filter fullP := rfl
  · rw [show (sLWith.fn (l, key, ())).1.1 = baseL l (kind, key, txn, ts, gone, val) from (if_pos ⟨by assumption, by assumption⟩).symm]
    generalize baseL l (kind, key, txn, ts, gone, val) = X at *
    refine LoopVC.weak [(.slot 5, .nil 38 StT)] (fun i : Nat => [(11, .i .i64 i)]) (fun i => [(18, .arr 38 StT (dnN (fun s => applyM s (kind, key, txn, ts, gone, val)) X i))]) (fun i => i ≤ X.length) (fun i => X.length - i) 0 (Ev.mk ?_)
    (conv => whnf)
    refine ⟨Leaf.mk rfl, Leaf.mk ?_, ?_⟩
    · omega
    intro i hii
    have hdl := dnN_len (fun s => applyM s (kind, key, txn, ts, gone, val)) X i
    repeat' (first | ((with_reducible refine Ev.mk ?_); conv => whnf) | (with_reducible refine And.intro ?_ ?_) | (intro h))
    all_goals (try simp only [decide_eq_true_eq, decide_eq_false_iff_not, beq_iff_eq, bne_iff_ne, beq_eq_false_iff_ne, bne_eq_false_iff_eq, Int.toNat_natCast, ge_iff_le, gt_iff_lt, Bool.not_eq_true', Bool.not_eq_false', Int.not_lt, Int.not_le, ne_eq] at *)
    all_goals (try dsimp only [Ty.den, Ty.dflt, StT, MsgT] at *)
    all_goals (try simp only [eq4, ne4, eq3, ne3, eq2, ne2, Prod.eta, List.length_cons, List.length_nil, List.length_append, Nat.zero_add] at *)
    all_goals (try simp (disch := omega) only [wrap64] at *)
    all_goals try first | exact leafDraw (by kernel_rfl) | exact Leaf.mk trivial | (refine Leaf.mk ?_; omega) | (refine Leaf.mk ?_; unfold maxLen; omega)
    all_goals first
      | (refine Leaf.mk ?_; omega)
      | (refine Leaf.mk ?_; unfold maxLen; omega)
      | (have := hB.2 _ (getD_mem stk0 (show i < X.length by omega))
         exact Leaf.mk (show (X.getD i stk0).2.length ≤ 100000 by omega))
      | (have h9 : (0 : Int) < (((applyM (X.getD i stk0) (kind, key, txn, ts, gone, val)).2.length : Nat) : Int) := ‹_›
         refine Leaf.mk ⟨i + 1, ?_, by omega, by omega⟩
         rw [dnN_in (by omega) (decide_eq_true (by omega))]; rfl)
      | (have h9 : (((applyM (X.getD i stk0) (kind, key, txn, ts, gone, val)).2.length : Nat) : Int) ≤ 0 := ‹_›
         refine Leaf.mk ⟨i + 1, ?_, by omega, by omega⟩
         rw [dnN_out (by omega) (decide_eq_false (by omega))]; rfl)
      | (refine Leaf.mk (ret1 (show dnN (fun s => applyM s (kind, key, txn, ts, gone, val)) X i = applyL l (kind, key, txn, ts, gone, val) from ?_))
         rw [dnN, take_all (show X.length ≤ i by omega), hA])
  · have hb : baseL l (kind, key, txn, ts, gone, val) = l := if_neg (fun hc => h hc.2)
    rw [hb] at hA hB
    refine LoopVC.weak [(.slot 5, .nil 38 StT)] (fun i : Nat => [(11, .i .i64 i)]) (fun i => [(18, .arr 38 StT (dnN (fun s => applyM s (kind, key, txn, ts, gone, val)) l i))]) (fun i => i ≤ l.length) (fun i => l.length - i) 0 (Ev.mk ?_)
    (conv => whnf)
    refine ⟨Leaf.mk rfl, Leaf.mk ?_, ?_⟩
    · omega
    intro i hii
    have hdl := dnN_len (fun s => applyM s (kind, key, txn, ts, gone, val)) l i
    repeat' (first | ((with_reducible refine Ev.mk ?_); conv => whnf) | (with_reducible refine And.intro ?_ ?_) | (intro h))
    all_goals (try simp only [decide_eq_true_eq, decide_eq_false_iff_not, beq_iff_eq, bne_iff_ne, beq_eq_false_iff_ne, bne_eq_false_iff_eq, Int.toNat_natCast, ge_iff_le, gt_iff_lt, Bool.not_eq_true', Bool.not_eq_false', Int.not_lt, Int.not_le, ne_eq] at *)
    all_goals (try dsimp only [Ty.den, Ty.dflt, StT, MsgT] at *)
    all_goals (try simp only [eq4, ne4, eq3, ne3, eq2, ne2, Prod.eta, List.length_cons, List.length_nil, List.length_append, Nat.zero_add] at *)
    all_goals (try simp (disch := omega) only [wrap64] at *)
    all_goals try first | exact leafDraw (by kernel_rfl) | exact Leaf.mk trivial | (refine Leaf.mk ?_; omega) | (refine Leaf.mk ?_; unfold maxLen; omega)
    all_goals first
      | (refine Leaf.mk ?_; omega)
      | (refine Leaf.mk ?_; unfold maxLen; omega)
      | (have := hB.2 _ (getD_mem stk0 (show i < l.length by omega))
         exact Leaf.mk (show (l.getD i stk0).2.length ≤ 100000 by omega))
      | (have h9 : (0 : Int) < (((applyM (l.getD i stk0) (kind, key, txn, ts, gone, val)).2.length : Nat) : Int) := ‹_›
         refine Leaf.mk ⟨i + 1, ?_, by omega, by omega⟩
         rw [dnN_in (by omega) (decide_eq_true (by omega))]; rfl)
      | (have h9 : (((applyM (l.getD i stk0) (kind, key, txn, ts, gone, val)).2.length : Nat) : Int) ≤ 0 := ‹_›
         refine Leaf.mk ⟨i + 1, ?_, by omega, by omega⟩
         rw [dnN_out (by omega) (decide_eq_false (by omega))]; rfl)
      | (refine Leaf.mk (ret1 (show dnN (fun s => applyM s (kind, key, txn, ts, gone, val)) l i = applyL l (kind, key, txn, ts, gone, val) from ?_))
         rw [dnN, take_all (show l.length ≤ i by omega), hA])
  · have hb : baseL l (kind, key, txn, ts, gone, val) = l := if_neg (fun hc => h hc.1)
    rw [hb] at hA hB
    refine LoopVC.weak [(.slot 5, .nil 38 StT)] (fun i : Nat => [(11, .i .i64 i)]) (fun i => [(18, .arr 38 StT (dnN (fun s => applyM s (kind, key, txn, ts, gone, val)) l i))]) (fun i => i ≤ l.length) (fun i => l.length - i) 0 (Ev.mk ?_)
    (conv => whnf)
    refine ⟨Leaf.mk rfl, Leaf.mk ?_, ?_⟩
    · omega
    intro i hii
    have hdl := dnN_len (fun s => applyM s (kind, key, txn, ts, gone, val)) l i
    repeat' (first | ((with_reducible refine Ev.mk ?_); conv => whnf) | (with_reducible refine And.intro ?_ ?_) | (intro h))
    all_goals (try simp only [decide_eq_true_eq, decide_eq_false_iff_not, beq_iff_eq, bne_iff_ne, beq_eq_false_iff_ne, bne_eq_false_iff_eq, Int.toNat_natCast, ge_iff_le, gt_iff_lt, Bool.not_eq_true', Bool.not_eq_false', Int.not_lt, Int.not_le, ne_eq] at *)
    all_goals (try dsimp only [Ty.den, Ty.dflt, StT, MsgT] at *)
    all_goals (try simp only [eq4, ne4, eq3, ne3, eq2, ne2, Prod.eta, List.length_cons, List.length_nil, List.length_append, Nat.zero_add] at *)
    all_goals (try simp (disch := omega) only [wrap64] at *)
    all_goals try first | exact leafDraw (by kernel_rfl) | exact Leaf.mk trivial | (refine Leaf.mk ?_; omega) | (refine Leaf.mk ?_; unfold maxLen; omega)
    all_goals first
      | (refine Leaf.mk ?_; omega)
      | (refine Leaf.mk ?_; unfold maxLen; omega)
      | (have := hB.2 _ (getD_mem stk0 (show i < l.length by omega))
         exact Leaf.mk (show (l.getD i stk0).2.length ≤ 100000 by omega))
      | (have h9 : (0 : Int) < (((applyM (l.getD i stk0) (kind, key, txn, ts, gone, val)).2.length : Nat) : Int) := ‹_›
         refine Leaf.mk ⟨i + 1, ?_, by omega, by omega⟩
         rw [dnN_in (by omega) (decide_eq_true (by omega))]; rfl)
      | (have h9 : (((applyM (l.getD i stk0) (kind, key, txn, ts, gone, val)).2.length : Nat) : Int) ≤ 0 := ‹_›
         refine Leaf.mk ⟨i + 1, ?_, by omega, by omega⟩
         rw [dnN_out (by omega) (decide_eq_false (by omega))]; rfl)
      | (refine Leaf.mk (ret1 (show dnN (fun s => applyM s (kind, key, txn, ts, gone, val)) l i = applyL l (kind, key, txn, ts, gone, val) from ?_))
         rw [dnN, take_all (show l.length ≤ i by omega), hA])
end Go.Proofs.YtkmfjlfejdoehaaGreat

set_option linter.unusedVariables false
set_option linter.unusedSimpArgs false
set_option maxRecDepth 8000
set_option maxHeartbeats 4000000
namespace Go.Proofs.YtkmfjlfejdoehaaGreat
open Go.Eng
def mpN (f : Stk → Stk) (l : List Stk) (i : Nat) : List Stk := (l.take i).map f
theorem mpN_len (f : Stk → Stk) (l : List Stk) (i : Nat) : (mpN f l i).length ≤ i := by rw [mpN, List.length_map, List.length_take]; omega
theorem mpN_at {f : Stk → Stk} {l : List Stk} {i : Nat} (h : i < l.length) : mpN f l (i + 1) = mpN f l i ++ [f (l.getD i stk0)] := map_at stk0 h
def sLApplyR : PSpec := ⟨[.d SsT, .d MsgT], [⟨false, [.d SsT]⟩], fun x => List.length x.1 ≤ 1000 ∧ ∀ s ∈ x.1, List.length s.2 ≤ 1000, fun x => ((applyL x.1 x.2.1, ()), ())⟩
theorem fLApplyR : FnOk Tryz.prog 16 := ⟨_, Tryz.func16, by decide, rfl⟩
theorem pLApplyR : PSound Tryz.prog 16 sLApplyR := by
  refine psound (T := tab) (S := (spOf [(70, sMCheckR.spec (lsOf [])), (71, sLWithR.spec (lsOf [])), (72, sApplyR.spec (lsOf [])), (73, sFull.spec (lsOf []))])) (keep := k16) (by kernel_rfl) tabOk (spCons (pOk pMCheckR fMCheckR (by decide) lsNil) (spCons (pOk pLWithR fLWithR (by decide) lsNil) (spCons (pOk pApplyR fApplyR (by decide) lsNil) (spCons (pOk pFull fFull (by decide) lsNil) spNil)))) (by kernel_rfl) Tryz.func16 (by kernel_rfl) (by decide) fun xs hg hp => ?_
  obtain ⟨l, ⟨kind, key, txn, ts, gone, val⟩, ⟨⟩⟩ := xs
  change List Stk at l
  change l.length ≤ 1000 ∧ ∀ s ∈ l, List.length s.2 ≤ 1000 at hp
  obtain ⟨hl, hs⟩ := hp
  change List UInt8 at key
  change List UInt8 at val
  change Int at kind txn ts
  change Bool at gone
  clear hg
  show vfun tab _ k16 Tryz.f16 [.sl StT l, .agg [.i .u8 kind, .s key, .i .i64 txn, .i .i64 ts, .b gone, .s val]] [] _
  refine Ev.out ?_
  repeat' (first | ((with_reducible refine Ev.mk ?_); conv => whnf) | (with_reducible refine And.intro ?_ ?_) | (intro h))
  all_goals (try simp only [decide_eq_true_eq, decide_eq_false_iff_not, beq_iff_eq, bne_iff_ne, beq_eq_false_iff_ne, bne_eq_false_iff_eq, Int.toNat_natCast, ge_iff_le, gt_iff_lt, Bool.not_eq_true', Bool.not_eq_false', Int.not_lt, Int.not_le, ne_eq] at *)
  all_goals (try dsimp only [Ty.den, Ty.dflt, StT, MsgT] at *)
  all_goals (try simp only [eq4, ne4, eq3, ne3, eq2, ne2, Prod.eta, List.length_cons, List.length_nil, List.length_append, Nat.zero_add] at *)
  all_goals (try simp (disch := omega) only [wrap64] at *)
  all_goals try first | exact leafDraw (by kernel_rfl) | exact Leaf.mk trivial | (refine Leaf.mk ?_; omega) | (refine Leaf.mk ?_; unfold maxLen; omega)
  · exact Leaf.mk (show l.length ≤ 100000 by omega)
  all_goals
    have hB := baseL_ok (l := l) (kind, key, txn, ts, gone, val) hl hs
    have hA : applyL l (kind, key, txn, ts, gone, val) = ((baseL l (kind, key, txn, ts, gone, val)).map fun s => applyM s (kind, key, txn, ts, gone, val)).filter fullP := rfl
  · rw [show (sLWithR.fn (l, key, ())).1.1 = baseL l (kind, key, txn, ts, gone, val) from (if_pos ⟨by assumption, by assumption⟩).symm]
    generalize baseL l (kind, key, txn, ts, gone, val) = X at *
    refine LoopVC.weak [(.slot 5, .nil 38 StT)] (fun i : Nat => [(6, .i .i64 i)]) (fun i => [(1, .arr 38 StT (mpN (fun s => applyM s (kind, key, txn, ts, gone, val)) X i))]) (fun i => i ≤ X.length) (fun i => X.length - i) 0 (Ev.mk ?_)
    (conv => whnf)
    refine ⟨Leaf.mk rfl, Leaf.mk ?_, ?_⟩
    · omega
    intro i hii
    have hdl := mpN_len (fun s => applyM s (kind, key, txn, ts, gone, val)) X i
    repeat' (first | ((with_reducible refine Ev.mk ?_); conv => whnf) | (with_reducible refine And.intro ?_ ?_) | (intro h))
    all_goals (try simp only [decide_eq_true_eq, decide_eq_false_iff_not, beq_iff_eq, bne_iff_ne, beq_eq_false_iff_ne, bne_eq_false_iff_eq, Int.toNat_natCast, ge_iff_le, gt_iff_lt, Bool.not_eq_true', Bool.not_eq_false', Int.not_lt, Int.not_le, ne_eq] at *)
    all_goals (try dsimp only [Ty.den, Ty.dflt, StT, MsgT] at *)
    all_goals (try simp only [eq4, ne4, eq3, ne3, eq2, ne2, Prod.eta, List.length_cons, List.length_nil, List.length_append, Nat.zero_add] at *)
    all_goals (try simp (disch := omega) only [wrap64] at *)
    all_goals try first | exact leafDraw (by kernel_rfl) | exact Leaf.mk trivial | (refine Leaf.mk ?_; omega) | (refine Leaf.mk ?_; unfold maxLen; omega)
    all_goals first
      | (refine Leaf.mk ?_; omega)
      | (refine Leaf.mk ?_; unfold maxLen; omega)
      | (have := hB.2 _ (getD_mem stk0 (show i < X.length by omega))
         exact Leaf.mk (show (X.getD i stk0).2.length ≤ 100000 by omega))
      | exact Leaf.mk (show (mpN (fun s => applyM s (kind, key, txn, ts, gone, val)) X i).length ≤ 200000 by omega)
      | (refine Leaf.mk ⟨i + 1, ?_, by omega, by omega⟩
         rw [mpN_at (by omega)]; rfl)
      | (refine Leaf.mk (ret1 (show (mpN (fun s => applyM s (kind, key, txn, ts, gone, val)) X i).filter fullP = applyL l (kind, key, txn, ts, gone, val) from ?_))
         rw [mpN, take_all (show X.length ≤ i by omega), hA])
  · have hb : baseL l (kind, key, txn, ts, gone, val) = l := if_neg (fun hc => h hc.2)
    rw [hb] at hA hB
    refine LoopVC.weak [(.slot 5, .nil 38 StT)] (fun i : Nat => [(6, .i .i64 i)]) (fun i => [(1, .arr 38 StT (mpN (fun s => applyM s (kind, key, txn, ts, gone, val)) l i))]) (fun i => i ≤ l.length) (fun i => l.length - i) 0 (Ev.mk ?_)
    (conv => whnf)
    refine ⟨Leaf.mk rfl, Leaf.mk ?_, ?_⟩
    · omega
    intro i hii
    have hdl := mpN_len (fun s => applyM s (kind, key, txn, ts, gone, val)) l i
    repeat' (first | ((with_reducible refine Ev.mk ?_); conv => whnf) | (with_reducible refine And.intro ?_ ?_) | (intro h))
    all_goals (try simp only [decide_eq_true_eq, decide_eq_false_iff_not, beq_iff_eq, bne_iff_ne, beq_eq_false_iff_ne, bne_eq_false_iff_eq, Int.toNat_natCast, ge_iff_le, gt_iff_lt, Bool.not_eq_true', Bool.not_eq_false', Int.not_lt, Int.not_le, ne_eq] at *)
    all_goals (try dsimp only [Ty.den, Ty.dflt, StT, MsgT] at *)
    all_goals (try simp only [eq4, ne4, eq3, ne3, eq2, ne2, Prod.eta, List.length_cons, List.length_nil, List.length_append, Nat.zero_add] at *)
    all_goals (try simp (disch := omega) only [wrap64] at *)
    all_goals try first | exact leafDraw (by kernel_rfl) | exact Leaf.mk trivial | (refine Leaf.mk ?_; omega) | (refine Leaf.mk ?_; unfold maxLen; omega)
    all_goals first
      | (refine Leaf.mk ?_; omega)
      | (refine Leaf.mk ?_; unfold maxLen; omega)
      | (have := hB.2 _ (getD_mem stk0 (show i < l.length by omega))
         exact Leaf.mk (show (l.getD i stk0).2.length ≤ 100000 by omega))
      | exact Leaf.mk (show (mpN (fun s => applyM s (kind, key, txn, ts, gone, val)) l i).length ≤ 200000 by omega)
      | (refine Leaf.mk ⟨i + 1, ?_, by omega, by omega⟩
         rw [mpN_at (by omega)]; rfl)
      | (refine Leaf.mk (ret1 (show (mpN (fun s => applyM s (kind, key, txn, ts, gone, val)) l i).filter fullP = applyL l (kind, key, txn, ts, gone, val) from ?_))
         rw [mpN, take_all (show l.length ≤ i by omega), hA])
  · have hb : baseL l (kind, key, txn, ts, gone, val) = l := if_neg (fun hc => h hc.1)
    rw [hb] at hA hB
    refine LoopVC.weak [(.slot 5, .nil 38 StT)] (fun i : Nat => [(6, .i .i64 i)]) (fun i => [(1, .arr 38 StT (mpN (fun s => applyM s (kind, key, txn, ts, gone, val)) l i))]) (fun i => i ≤ l.length) (fun i => l.length - i) 0 (Ev.mk ?_)
    (conv => whnf)
    refine ⟨Leaf.mk rfl, Leaf.mk ?_, ?_⟩
    · omega
    intro i hii
    have hdl := mpN_len (fun s => applyM s (kind, key, txn, ts, gone, val)) l i
    repeat' (first | ((with_reducible refine Ev.mk ?_); conv => whnf) | (with_reducible refine And.intro ?_ ?_) | (intro h))
    all_goals (try simp only [decide_eq_true_eq, decide_eq_false_iff_not, beq_iff_eq, bne_iff_ne, beq_eq_false_iff_ne, bne_eq_false_iff_eq, Int.toNat_natCast, ge_iff_le, gt_iff_lt, Bool.not_eq_true', Bool.not_eq_false', Int.not_lt, Int.not_le, ne_eq] at *)
    all_goals (try dsimp only [Ty.den, Ty.dflt, StT, MsgT] at *)
    all_goals (try simp only [eq4, ne4, eq3, ne3, eq2, ne2, Prod.eta, List.length_cons, List.length_nil, List.length_append, Nat.zero_add] at *)
    all_goals (try simp (disch := omega) only [wrap64] at *)
    all_goals try first | exact leafDraw (by kernel_rfl) | exact Leaf.mk trivial | (refine Leaf.mk ?_; omega) | (refine Leaf.mk ?_; unfold maxLen; omega)
    all_goals first
      | (refine Leaf.mk ?_; omega)
      | (refine Leaf.mk ?_; unfold maxLen; omega)
      | (have := hB.2 _ (getD_mem stk0 (show i < l.length by omega))
         exact Leaf.mk (show (l.getD i stk0).2.length ≤ 100000 by omega))
      | exact Leaf.mk (show (mpN (fun s => applyM s (kind, key, txn, ts, gone, val)) l i).length ≤ 200000 by omega)
      | (refine Leaf.mk ⟨i + 1, ?_, by omega, by omega⟩
         rw [mpN_at (by omega)]; rfl)
      | (refine Leaf.mk (ret1 (show (mpN (fun s => applyM s (kind, key, txn, ts, gone, val)) l i).filter fullP = applyL l (kind, key, txn, ts, gone, val) from ?_))
         rw [mpN, take_all (show l.length ≤ i by omega), hA])
end Go.Proofs.YtkmfjlfejdoehaaGreat

set_option linter.unusedVariables false
set_option linter.unusedSimpArgs false
set_option maxRecDepth 8000
set_option maxHeartbeats 4000000
namespace Go.Proofs.YtkmfjlfejdoehaaGreat
open Go.Eng
def sLOverR : PSpec := ⟨[.d SsT, .d MsT, .d .str, .d .str], [⟨false, [.d SsT]⟩], fun x => List.length x.1 ≤ 1000 ∧ List.length x.2.1 ≤ 1000 ∧ (∀ s ∈ x.1, List.length s.2 ≤ 1000) ∧ RiseK x.1, fun x => ((overM x.1 x.2.1 x.2.2.1 x.2.2.2.1, ()), ())⟩
theorem fLOverR : FnOk Tryz.prog 18 := ⟨_, Tryz.func18, by decide, rfl⟩
theorem pLOverR : PSound Tryz.prog 18 sLOverR := by
  refine psound (T := tab) (S := (spOf [(23, sLRangeR.spec (lsOf [])), (80, sKeysR.spec (lsOf [])), (71, sLWithR.spec (lsOf [])), (81, sFoldR.spec (lsOf [])), (73, sFull.spec (lsOf []))])) (keep := k18) (by kernel_rfl) tabOk (spCons (pOk pLRangeR fLRangeR (by decide) lsNil) (spCons (pOk pKeysR fKeysR (by decide) lsNil) (spCons (pOk pLWithR fLWithR (by decide) lsNil) (spCons (pOk pFoldR fFoldR (by decide) lsNil) (spCons (pOk pFull fFull (by decide) lsNil) spNil))))) (by kernel_rfl) Tryz.func18 (by kernel_rfl) (by decide) fun xs hg hp => ?_
  obtain ⟨l, m, lo, hi, ⟨⟩⟩ := xs
  change List Stk at l
  change List Msg at m
  change List UInt8 at lo hi
  change l.length ≤ 1000 ∧ m.length ≤ 1000 ∧ (∀ s ∈ l, List.length s.2 ≤ 1000) ∧ RiseK l at hp
  obtain ⟨hl, hm, hs, hu⟩ := hp
  clear hg
  show vfun tab _ k18 Tryz.f18 [.sl StT l, .sl MsgT m, .s lo, .s hi] [] _
  refine Ev.out ?_
  repeat' (first | ((with_reducible refine Ev.mk ?_); conv => whnf) | (with_reducible refine And.intro ?_ ?_) | (intro h))
  all_goals (try simp only [decide_eq_true_eq, decide_eq_false_iff_not, beq_iff_eq, bne_iff_ne, beq_eq_false_iff_ne, bne_eq_false_iff_eq, Int.toNat_natCast, ge_iff_le, gt_iff_lt, Bool.not_eq_true', Bool.not_eq_false', Int.not_lt, Int.not_le, ne_eq] at *)
  all_goals (try dsimp only [Ty.den, Ty.dflt, StT] at *)
  all_goals (try simp only [eq4, ne4, eq3, ne3, eq2, ne2, Prod.eta, List.length_cons, List.length_nil, List.length_append, Nat.zero_add] at *)
  all_goals (try simp (disch := omega) only [wrap64] at *)
  all_goals try first | exact leafDraw (by kernel_rfl) | exact Leaf.mk trivial | (refine Leaf.mk ?_; omega) | (refine Leaf.mk ?_; unfold maxLen; omega)
  · exact Leaf.mk (show l.length ≤ 100000 by omega)
  · exact Leaf.mk (show m.length ≤ 100000 by omega)
  rw [show (sKeysR.fn (m, lo, hi, ())).1.1 = keysF lo hi m from rfl, show (sLRangeR.fn (l, lo, hi, ())).1.1 = l.filter (inR lo hi) from rfl]
  have hkl : (keysF lo hi m).length ≤ m.length := by rw [keysF, sortU_fold]; exact Nat.le_trans (sortU_len _) (by rw [keysL, List.length_map]; exact List.length_filter_le _ _)
  have hr0 : XOkk (l.filter (inR lo hi)) 1000 := ⟨List.Pairwise.filter _ hu, Nat.le_trans (List.length_filter_le _ _) hl, fun s h => hs s (List.mem_filter.1 h).1⟩
  generalize hks : keysF lo hi m = ks at *
  generalize hrr : l.filter (inR lo hi) = r at *
  refine LoopVC.on (fun j : Nat => [(9, .sl StT (xN r ks j)), (11, .i .i64 j)]) (fun _ => []) (fun j => j ≤ ks.length ∧ XOkk (xN r ks j) (1000 + j)) (fun j => ks.length - j) 0 ?_ ⟨by omega, hr0⟩ ?_
  · rfl
  intro j ⟨hj, hXo⟩
  have hnx : j < ks.length → xN r ks (j + 1) = withF (xN r ks j) (ks.getD j []) := fun h => xN_at h
  have hXl := hXo.len
  repeat' (first | ((with_reducible refine Ev.mk ?_); conv => whnf) | (with_reducible refine And.intro ?_ ?_) | (intro h))
  all_goals (try simp only [decide_eq_true_eq, decide_eq_false_iff_not, beq_iff_eq, bne_iff_ne, beq_eq_false_iff_ne, bne_eq_false_iff_eq, Int.toNat_natCast, ge_iff_le, gt_iff_lt, Bool.not_eq_true', Bool.not_eq_false', Int.not_lt, Int.not_le, ne_eq] at *)
  all_goals (try dsimp only [Ty.den, Ty.dflt, StT] at *)
  all_goals (try simp only [eq4, ne4, eq3, ne3, eq2, ne2, Prod.eta, List.length_cons, List.length_nil, List.length_append, Nat.zero_add] at *)
  all_goals (try simp (disch := omega) only [wrap64] at *)
  all_goals try first | exact leafDraw (by kernel_rfl) | exact Leaf.mk trivial | (refine Leaf.mk ?_; omega) | (refine Leaf.mk ?_; unfold maxLen; omega)
  · exact Leaf.mk (show (xN r ks j).length ≤ 100000 by omega)
  · refine Leaf.mk (Exists.intro (j + 1) ⟨?_, ⟨by omega, by rw [hnx (by omega)]; exact hXo.next (ks.getD j [])⟩, by omega⟩)
    rw [hnx (by omega)]; rfl
  have hjj : xN r ks ks.length = xN r ks j := by rw [show j = ks.length by omega]
  generalize hX : xN r ks j = X at *
  refine LoopVC.weak [(.slot 12, .nil 38 StT)] (fun i : Nat => [(13, .i .i64 i)]) (fun i => [(0, .arr 38 StT (mpN (fun s => foldM s m) X i))]) (fun i => i ≤ X.length) (fun i => X.length - i) 0 (Ev.mk ?_)
  (conv => whnf)
  refine ⟨Leaf.mk rfl, Leaf.mk ?_, ?_⟩
  · omega
  intro i hii
  have hdl := mpN_len (fun s => foldM s m) X i
  repeat' (first | ((with_reducible refine Ev.mk ?_); conv => whnf) | (with_reducible refine And.intro ?_ ?_) | (intro h))
  all_goals (try simp only [decide_eq_true_eq, decide_eq_false_iff_not, beq_iff_eq, bne_iff_ne, beq_eq_false_iff_ne, bne_eq_false_iff_eq, Int.toNat_natCast, ge_iff_le, gt_iff_lt, Bool.not_eq_true', Bool.not_eq_false', Int.not_lt, Int.not_le, ne_eq] at *)
  all_goals (try dsimp only [Ty.den, Ty.dflt, StT] at *)
  all_goals (try simp only [eq4, ne4, eq3, ne3, eq2, ne2, Prod.eta, List.length_cons, List.length_nil, List.length_append, Nat.zero_add] at *)
  all_goals (try simp (disch := omega) only [wrap64] at *)
  all_goals try first | exact leafDraw (by kernel_rfl) | exact Leaf.mk trivial | (refine Leaf.mk ?_; omega) | (refine Leaf.mk ?_; unfold maxLen; omega)
  · have := hXo.all _ (getD_mem stk0 (show i < X.length by omega))
    exact Leaf.mk (show (X.getD i stk0).2.length + m.length ≤ 50000 by omega)
  · refine Leaf.mk ⟨i + 1, ?_, by omega, by omega⟩
    rw [mpN_at (by omega)]; rfl
  · exact Leaf.mk (show (mpN (fun s => foldM s m) X i).length ≤ 200000 by omega)
  · refine Leaf.mk (ret1 (show (mpN (fun s => foldM s m) X i).filter fullP = overM l m lo hi from ?_))
    rw [mpN, take_all (show X.length ≤ i by omega), overM, hks, hrr, ← hjj, xN, List.take_length]
end Go.Proofs.YtkmfjlfejdoehaaGreat

set_option linter.unusedVariables false
set_option linter.unusedSimpArgs false
set_option maxRecDepth 8000
set_option maxHeartbeats 4000000
namespace Go.Proofs.YtkmfjlfejdoehaaGreat
open Go.Eng
def sumN (l : List Stk) : Nat := (l.flatMap one).length
theorem sumN_nil : sumN [] = 0 := rfl
theorem sumN_cons (s : Stk) (l : List Stk) : sumN (s :: l) = (one s).length + sumN l := by simp [sumN]
theorem sumN_app (a b : List Stk) : sumN (a ++ b) = sumN a + sumN b := by simp [sumN]
theorem sumN_at {l : List Stk} {i : Nat} (h : i < l.length) : sumN (l.take (i + 1)) = sumN (l.take i) + (one (l.getD i stk0)).length := by
  rw [take_at stk0 h, sumN_app, sumN_cons, sumN_nil]; rfl
theorem sumN_cut (l : List Stk) (k : Nat) : sumN (l.take k) + sumN (l.drop k) = sumN l := by rw [← sumN_app, List.take_append_drop]
theorem sumN_le (l : List Stk) : sumN l ≤ l.length * 604 := flat_lenS one 604 one_len l
def greatN (l : List Stk) (k : Nat) : Nat := if sumN (l.take k) ≤ sumN (l.drop k) then sumN (l.drop k) else sumN (l.take k)
def bestN (l : List Stk) : Nat → Nat
  | 0 => 1
  | n + 1 => if 2 ≤ n ∧ greatN l n < greatN l (bestN l n) then n else bestN l n
theorem bestN_bd (l : List Stk) : ∀ n, 1 ≤ bestN l n ∧ (2 ≤ n → bestN l n < n)
  | 0 => ⟨Nat.le_refl _, fun h => by omega⟩
  | n + 1 => by
    have ih := bestN_bd l n
    rw [bestN]
    split
    · omega
    · refine ⟨ih.1, fun h => ?_⟩
      by_cases h2 : 2 ≤ n
      · have := ih.2 h2; omega
      · have : n = 1 := by omega
        subst this; show 1 < 2; omega
def splitF (l : List Stk) : List Stk × List Stk × List UInt8 := if l.length < 2 then (l, [], []) else (l.take (bestN l l.length), l.drop (bestN l l.length), (l.getD (bestN l l.length) stk0).1)
theorem ret3 {u v : List Stk × List Stk × List UInt8} (h : u = v) : (some ((u.1, ()), (u.2.1, ()), (u.2.2, ()), ()) : Option ((List Stk × Unit) × (List Stk × Unit) × (List UInt8 × Unit) × Unit)) = some ((v.1, ()), (v.2.1, ()), (v.2.2, ()), ()) := by rw [h]
def sLSplit : PSpec := ⟨[.st SsT], [⟨true, [.d SsT]⟩, ⟨true, [.d SsT]⟩, ⟨false, [.d .str]⟩], fun x => List.length x.1 ≤ 100000, fun x => (((splitF x.1).1, ()), ((splitF x.1).2.1, ()), ((splitF x.1).2.2, ()), ())⟩
def kN (l : List Stk) (i : Nat) : Nat := if i = 0 then 0 else bestN l (i + 1)
def lN (l : List Stk) (i : Nat) : Nat := if i = 0 then 0 else greatN l (bestN l (i + 1))
theorem kN_new {l : List Stk} {i : Nat} (h : kN l i = 0 ∨ greatN l (i + 1) < lN l i) : kN l (i + 1) = i + 1 ∧ lN l (i + 1) = greatN l (i + 1) := by
  have hb := bestN_bd l (i + 1)
  have e : bestN l (i + 2) = i + 1 := by
    rw [bestN]
    by_cases hi : i = 0
    · subst hi; rfl
    · rw [if_pos]
      rw [kN, if_neg hi, lN, if_neg hi] at h
      rcases h with h | h
      · omega
      · exact ⟨by omega, h⟩
  rw [kN, lN, if_neg (by omega), if_neg (by omega), e]; exact ⟨rfl, rfl⟩
theorem kN_old {l : List Stk} {i : Nat} (h : ¬ kN l i = 0) (h2 : lN l i ≤ greatN l (i + 1)) : kN l (i + 1) = kN l i ∧ lN l (i + 1) = lN l i := by
  have hi : ¬ i = 0 := fun hc => h (by rw [kN, if_pos hc])
  rw [lN, if_neg hi] at h2
  have e : bestN l (i + 2) = bestN l (i + 1) := by
    rw [bestN, if_neg (fun hc => by omega)]
  have hi1 : ¬ i + 1 = 0 := by omega
  simp only [kN, lN, if_neg hi, if_neg hi1]
  rw [e]; exact ⟨rfl, rfl⟩
theorem kN_le (l : List Stk) (i : Nat) : kN l i ≤ i := by
  rw [kN]; split
  · omega
  · have := (bestN_bd l (i + 1)).2 (by omega); omega
theorem fLSplit : FnOk Tryz.prog 29 := ⟨_, Tryz.func29, by decide, rfl⟩
theorem pLSplit : PSound Tryz.prog 29 sLSplit := by
  refine psound (T := tab) (S := (spOf [(92, sCloneT.spec (lsOf [])), (93, sOne.spec (lsOf []))])) (keep := k29) (by kernel_rfl) tabOk (spCons (pOk pCloneT fCloneT (by decide) lsNil) (spCons (pOk pOne fOne (by decide) lsNil) spNil)) (by kernel_rfl) Tryz.func29 (by kernel_rfl) (by decide) fun xs hg hp => ?_
  obtain ⟨l, ⟨⟩⟩ := xs
  change List Stk at l
  change l.length ≤ 100000 at hp
  clear hg
  show vfun tab _ k29 Tryz.f29 [.agg [.sl StT l]] [] _
  refine Ev.out ?_
  repeat' (first | ((with_reducible refine Ev.mk ?_); conv => whnf) | (with_reducible refine And.intro ?_ ?_) | (intro h))
  all_goals (try simp only [decide_eq_true_eq, decide_eq_false_iff_not, beq_iff_eq, bne_iff_ne, beq_eq_false_iff_ne, bne_eq_false_iff_eq, Int.toNat_natCast, ge_iff_le, gt_iff_lt, Bool.not_eq_true', Bool.not_eq_false', Int.not_lt, Int.not_le, ne_eq] at *)
  all_goals (try dsimp only [Ty.den, Ty.dflt, StT] at *)
  all_goals (try simp only [eq4, ne4, eq3, ne3, eq2, ne2, Prod.eta, List.length_cons, List.length_nil, List.length_append, Nat.zero_add] at *)
  all_goals (try simp (disch := omega) only [wrap64] at *)
  all_goals try first | exact leafDraw (by kernel_rfl) | exact Leaf.mk trivial | (refine Leaf.mk ?_; omega) | (refine Leaf.mk ?_; unfold maxLen; omega)
  · exact Leaf.mk (show l.length ≤ 1000000 by omega)
  · refine Leaf.mk (ret3 (u := (l, [], [])) (v := splitF l) ?_)
    rw [splitF, if_pos (by omega)]
  refine LoopVC.on (fun i : Nat => [(5, .i .i64 (sumN (l.take i) : Nat)), (26, .i .i64 i)]) (fun _ => []) (fun i => i ≤ l.length) (fun i => l.length - i) 0 rfl (by omega) ?_
  intro i hi
  have h1 := sumN_le (l.take i)
  rw [List.length_take] at h1
  have h2 := one_len (l.getD i stk0)
  repeat' (first | ((with_reducible refine Ev.mk ?_); conv => whnf) | (with_reducible refine And.intro ?_ ?_) | (intro h))
  all_goals (try simp only [decide_eq_true_eq, decide_eq_false_iff_not, beq_iff_eq, bne_iff_ne, beq_eq_false_iff_ne, bne_eq_false_iff_eq, Int.toNat_natCast, ge_iff_le, gt_iff_lt, Bool.not_eq_true', Bool.not_eq_false', Int.not_lt, Int.not_le, ne_eq] at *)
  all_goals (try dsimp only [Ty.den, Ty.dflt, StT] at *)
  all_goals (try simp only [eq4, ne4, eq3, ne3, eq2, ne2, Prod.eta, List.length_cons, List.length_nil, List.length_append, Nat.zero_add] at *)
  all_goals (try simp (disch := omega) only [wrap64] at *)
  all_goals try first | exact leafDraw (by kernel_rfl) | exact Leaf.mk trivial | (refine Leaf.mk ?_; omega) | (refine Leaf.mk ?_; unfold maxLen; omega)
  · refine Leaf.mk (Exists.intro (i + 1) ⟨?_, by omega, by omega⟩)
    rw [show (sOne.fn (l.getD i ([], []), ())).1.1 = one (l.getD i stk0) from rfl, wrap64 (by omega), sumN_at (by omega)]; rfl
  have hall := sumN_le l
  obtain rfl : i = l.length := by omega
  have hM : (l.take ((l.length : Int) - 1).toNat).drop (Int.toNat 0) = l.take (l.length - 1) := by rw [show ((l.length : Int) - 1).toNat = l.length - 1 by omega]; rfl
  have hMl : (l.take (l.length - 1)).length = l.length - 1 := by rw [List.length_take]; omega
  have hMg : ∀ i, i < l.length - 1 → (l.take (l.length - 1)).getD i stk0 = l.getD i stk0 := fun i hi => by rw [List.getD_eq_getElem?_getD, List.getElem?_take, if_pos hi, ← List.getD_eq_getElem?_getD]
  rw [hM, List.take_length]
  generalize l.take (l.length - 1) = M at *
  refine LoopVC.on (fun i : Nat => [(8, .i .i64 (kN l i : Nat)), (9, .i .i64 (lN l i : Nat)), (10, .i .i64 (sumN (l.take i) : Nat)), (44, .i .i64 i)]) (fun _ => []) (fun i => i ≤ l.length - 1) (fun i => l.length - i) 0 rfl (by omega) ?_
  intro i hi
  have h1 := sumN_le (l.take i)
  rw [List.length_take] at h1
  have h2 := one_len (l.getD i stk0)
  repeat' (first | ((with_reducible refine Ev.mk ?_); conv => whnf) | (with_reducible refine And.intro ?_ ?_) | (intro h))
  all_goals (try simp only [decide_eq_true_eq, decide_eq_false_iff_not, beq_iff_eq, bne_iff_ne, beq_eq_false_iff_ne, bne_eq_false_iff_eq, Int.toNat_natCast, ge_iff_le, gt_iff_lt, Bool.not_eq_true', Bool.not_eq_false', Int.not_lt, Int.not_le, ne_eq] at *)
  all_goals (try dsimp only [Ty.den, Ty.dflt, StT] at *)
  all_goals (try simp only [eq4, ne4, eq3, ne3, eq2, ne2, Prod.eta, List.length_cons, List.length_nil, List.length_append, Nat.zero_add] at *)
  all_goals (try simp (disch := omega) only [wrap64] at *)
  all_goals try first | exact leafDraw (by kernel_rfl) | exact Leaf.mk trivial | (refine Leaf.mk ?_; omega) | (refine Leaf.mk ?_; unfold maxLen; omega)
  all_goals
    have hs : i < l.length - 1 → IntKind.i64.wrap (((sumN (l.take i) : Nat) : Int) + ((List.length (α := Int) (sOne.fn (M.getD i ([], []), ())).1.1 : Nat) : Int)) = ((sumN (l.take (i + 1)) : Nat) : Int) := fun h => by
      rw [show (sOne.fn (M.getD i ([], []), ())).1.1 = one (M.getD i stk0) from rfl, hMg i h, wrap64 (by omega), sumN_at (by omega)]; rfl
  all_goals try
    have hil : i < l.length - 1 := by omega
    have hcut := sumN_cut l (i + 1)
    have hg : (if ((sumN (l.take (i + 1)) : Nat) : Int) < IntKind.i64.wrap (((sumN l : Nat) : Int) - ((sumN (l.take (i + 1)) : Nat) : Int)) then IntKind.i64.wrap (((sumN l : Nat) : Int) - ((sumN (l.take (i + 1)) : Nat) : Int)) else ((sumN (l.take (i + 1)) : Nat) : Int)) = ((greatN l (i + 1) : Nat) : Int) := by
      rw [wrap64 (by omega), greatN]
      split <;> split <;> omega
    simp only [hs hil, hg] at *
  · obtain ⟨k1, k2⟩ := kN_new (l := l) (i := i) (.inl (by omega))
    refine Leaf.mk (Exists.intro (i + 1) ⟨?_, by omega, by omega⟩)
    rw [k1, k2]; rfl
  · obtain ⟨k1, k2⟩ := kN_new (l := l) (i := i) (.inr (by omega))
    refine Leaf.mk (Exists.intro (i + 1) ⟨?_, by omega, by omega⟩)
    rw [k1, k2]; rfl
  · obtain ⟨k1, k2⟩ := kN_old (l := l) (i := i) (by omega) (by omega)
    refine Leaf.mk (Exists.intro (i + 1) ⟨?_, by omega, by omega⟩)
    rw [k1, k2]; rfl
  all_goals
    have hkl := kN_le l i
  · refine Leaf.mk ?_; omega
  · refine Leaf.mk (show List.length _ ≤ 1000000 from ?_)
    rw [List.length_drop, List.length_take]; omega
  · refine Leaf.mk ?_; omega
  · refine Leaf.mk (show List.length _ ≤ 1000000 from ?_)
    rw [List.length_drop, List.length_take]; omega
  · refine Leaf.mk ?_; omega
  · have hk : kN l i = bestN l l.length := by rw [kN, if_neg (by omega), show i + 1 = l.length by omega]
    refine Leaf.mk (ret3 (u := ((l.take (kN l i)).drop (Int.toNat 0), (l.take l.length).drop (kN l i), (l.getD (kN l i) ([], [])).1)) (v := splitF l) ?_)
    rw [splitF, if_neg (by omega), List.take_length, hk]; rfl
theorem fGrowT : FnOk Tryz.prog 167 := ⟨_, Tryz.func167, by decide, rfl⟩
noncomputable def iGrowT : Eng.Spec := inl tab (spOf []) k167 Tryz.f167
theorem pGrowT : SpecOk Tryz.prog 167 iGrowT := inl_ok tabOk spNil (by kernel_rfl) Tryz.func167 (by kernel_rfl)
def sConcatT : PSpec := ⟨[.d (.slice (.slice StT))], [⟨false, [.d (.slice StT)]⟩], fun x => List.length x.1 ≤ 1000 ∧ List.length (List.flatten (α := Stk) x.1) ≤ 1000000, fun x => ((List.flatten (α := Stk) x.1, ()), ())⟩
theorem fConcatT : FnOk Tryz.prog 102 := ⟨_, Tryz.func102, by decide, rfl⟩
theorem pConcatT : PSound Tryz.prog 102 sConcatT := by
  refine psound (T := tab) (S := (spOf [(167, iGrowT)])) (keep := k102) (by kernel_rfl) tabOk (spCons (.inl ⟨pGrowT, fGrowT⟩) spNil) (by kernel_rfl) Tryz.func102 (by kernel_rfl) (by decide) fun xs hg hp => ?_
  obtain ⟨xs, ⟨⟩⟩ := xs
  change List (List Stk) at xs
  change xs.length ≤ 1000 ∧ xs.flatten.length ≤ 1000000 at hp
  obtain ⟨hp, hf⟩ := hp
  show vfun tab _ k102 Tryz.f102 [.sl (.slice StT) xs] [] _
  refine Ev.out ?_
  repeat' (first | ((with_reducible refine Ev.mk ?_); conv => whnf) | (with_reducible refine And.intro ?_ ?_) | (intro h))
  refine LoopVC.on (fun i : Nat => [(11, .i .i64 i), (3, .i .i64 ((xs.take i).flatten.length : Nat))]) (fun _ => []) (fun i => i ≤ xs.length) (fun i => xs.length - i) 0 rfl (by omega) ?_
  intro i hi
  have hle := flat_le (xs := xs) i
  have hge := fun h => flat_get (xs := xs) (i := i) h
  repeat' (first | ((with_reducible refine Ev.mk ?_); conv => whnf) | (with_reducible refine And.intro ?_ ?_) | (intro h))
  all_goals (try simp only [decide_eq_true_eq, decide_eq_false_iff_not, beq_iff_eq, bne_iff_ne, beq_eq_false_iff_ne, bne_eq_false_iff_eq, Int.toNat_natCast, ge_iff_le, gt_iff_lt, Bool.not_eq_true', Bool.not_eq_false', Int.not_lt, Int.not_le, ne_eq] at *)
  all_goals (try dsimp only [Ty.den, Ty.dflt, StT] at *)
  all_goals (try simp only [eq4, ne4, eq3, ne3, eq2, ne2, Prod.eta, List.length_cons, List.length_nil, List.length_append, Nat.zero_add] at *)
  all_goals (try simp (disch := omega) only [wrap64] at *)
  all_goals try first | exact leafDraw (by kernel_rfl) | exact Leaf.mk trivial | (refine Leaf.mk ?_; omega) | (refine Leaf.mk ?_; unfold maxLen; omega)
  · omega
  · refine Leaf.mk ⟨i + 1, ?_, by omega, by omega⟩
    rw [flat_at (by omega), List.length_append]; simp only [Int.natCast_add]; rfl
  · omega
  · refine LoopVC.on (fun j : Nat => [(27, .i .i64 j)]) (fun j => [(0, .arr 38 StT (xs.take j).flatten)]) (fun j => j ≤ xs.length) (fun j => xs.length - j) 0 rfl (by omega) ?_
    intro j hj
    have hle := flat_le (xs := xs) j
    have hge := fun h => flat_get (xs := xs) (i := j) h
    repeat' (first | ((with_reducible refine Ev.mk ?_); conv => whnf) | (with_reducible refine And.intro ?_ ?_) | (intro h))
    all_goals (try simp only [decide_eq_true_eq, decide_eq_false_iff_not, beq_iff_eq, bne_iff_ne, beq_eq_false_iff_ne, bne_eq_false_iff_eq, Int.toNat_natCast, ge_iff_le, gt_iff_lt, Bool.not_eq_true', Bool.not_eq_false', Int.not_lt, Int.not_le, ne_eq] at *)
    all_goals (try dsimp only [Ty.den, Ty.dflt, StT] at *)
    all_goals (try simp only [eq4, ne4, eq3, ne3, eq2, ne2, Prod.eta, List.length_cons, List.length_nil, List.length_append, Nat.zero_add] at *)
    all_goals (try simp (disch := omega) only [wrap64] at *)
    all_goals try first | exact leafDraw (by kernel_rfl) | exact Leaf.mk trivial | (refine Leaf.mk ?_; omega) | (refine Leaf.mk ?_; unfold maxLen; omega)
    · refine Leaf.mk ⟨j + 1, ?_, by omega, by omega⟩
      rw [flat_at (by omega)]; rfl
    · rw [List.take_of_length_le (by omega)]; exact Leaf.mk (ret1 rfl)
  · refine LoopVC.weak [(.slot 6, .nil 38 StT)] (fun j : Nat => [(27, .i .i64 j)]) (fun j => [(0, .arr 38 StT (xs.take j).flatten)]) (fun j => j ≤ xs.length) (fun j => xs.length - j) 0 (Ev.mk ?_)
    (conv => whnf)
    refine ⟨Leaf.mk rfl, Leaf.mk ?_, ?_⟩
    · omega
    intro j hj
    have hle := flat_le (xs := xs) j
    have hge := fun h => flat_get (xs := xs) (i := j) h
    repeat' (first | ((with_reducible refine Ev.mk ?_); conv => whnf) | (with_reducible refine And.intro ?_ ?_) | (intro h))
    all_goals (try simp only [decide_eq_true_eq, decide_eq_false_iff_not, beq_iff_eq, bne_iff_ne, beq_eq_false_iff_ne, bne_eq_false_iff_eq, Int.toNat_natCast, ge_iff_le, gt_iff_lt, Bool.not_eq_true', Bool.not_eq_false', Int.not_lt, Int.not_le, ne_eq] at *)
    all_goals (try dsimp only [Ty.den, Ty.dflt, StT] at *)
    all_goals (try simp only [eq4, ne4, eq3, ne3, eq2, ne2, Prod.eta, List.length_cons, List.length_nil, List.length_append, Nat.zero_add] at *)
    all_goals (try simp (disch := omega) only [wrap64] at *)
    all_goals try first | exact leafDraw (by kernel_rfl) | exact Leaf.mk trivial | (refine Leaf.mk ?_; omega) | (refine Leaf.mk ?_; unfold maxLen; omega)
    · refine Leaf.mk ⟨j + 1, ?_, by omega, by omega⟩
      rw [flat_at (by omega)]; rfl
    · rw [List.take_of_length_le (by omega)]; exact Leaf.mk (ret1 rfl)
def sLJoin : PSpec := ⟨[.st SsT, .st SsT], [⟨true, [.d SsT]⟩], fun x => List.length x.1 ≤ 100000 ∧ List.length x.2.1 ≤ 100000, fun x => (((x.1 ++ x.2.1 : List Stk), ()), ())⟩
theorem fLJoin : FnOk Tryz.prog 35 := ⟨_, Tryz.func35, by decide, rfl⟩
theorem pLJoin : PSound Tryz.prog 35 sLJoin := by
  refine psound (T := tab) (S := (spOf [(102, sConcatT.spec (lsOf []))])) (keep := k35) (by kernel_rfl) tabOk (spCons (pOk pConcatT fConcatT (by decide) lsNil) spNil) (by kernel_rfl) Tryz.func35 (by kernel_rfl) (by decide) fun xs hg hp => ?_
  obtain ⟨a, b, ⟨⟩⟩ := xs
  change List Stk at a b
  change a.length ≤ 100000 ∧ b.length ≤ 100000 at hp
  clear hg
  show vfun tab _ k35 Tryz.f35 [.agg [.sl StT a], .agg [.sl StT b]] [] _
  refine Ev.out ?_
  repeat' (first | ((with_reducible refine Ev.mk ?_); conv => whnf) | (with_reducible refine And.intro ?_ ?_) | (intro h))
  all_goals (try simp only [decide_eq_true_eq, decide_eq_false_iff_not, beq_iff_eq, bne_iff_ne, beq_eq_false_iff_ne, bne_eq_false_iff_eq, Int.toNat_natCast, ge_iff_le, gt_iff_lt, Bool.not_eq_true', Bool.not_eq_false', Int.not_lt, Int.not_le, ne_eq] at *)
  all_goals (try dsimp only [Ty.den, Ty.dflt, StT] at *)
  all_goals (try simp only [eq4, ne4, eq3, ne3, eq2, ne2, Prod.eta, List.length_cons, List.length_nil, List.length_append, Nat.zero_add] at *)
  all_goals (try simp (disch := omega) only [wrap64] at *)
  all_goals try first | exact leafDraw (by kernel_rfl) | exact Leaf.mk trivial | (refine Leaf.mk ?_; omega) | (refine Leaf.mk ?_; unfold maxLen; omega)
  · refine Leaf.mk (show List.length [a, b] ≤ 1000 ∧ ([a, b] : List (List Stk)).flatten.length ≤ 1000000 from ?_)
    simp only [List.flatten_cons, List.flatten_nil, List.append_nil, List.length_append, List.length_cons, List.length_nil]; omega
  · refine Leaf.mk (ret1 (show ([a, b] : List (List Stk)).flatten = a ++ b from ?_))
    simp
theorem fEqF : FnOk Tryz.prog 90 := ⟨_, Tryz.func90, by decide, rfl⟩
noncomputable def iEqF : Eng.Spec := inl tab (spOf [(91, sSSame.spec (lsOf []))]) k90 Tryz.f90
theorem pEqF : SpecOk Tryz.prog 90 iEqF := inl_ok tabOk (spCons (pOk pSSame fSSame (by decide) lsNil) spNil) (by kernel_rfl) Tryz.func90 (by kernel_rfl)
def sLSame : PSpec := ⟨[.st SsT, .st SsT], [⟨false, [.d .bool]⟩], fun x => List.length x.1 ≤ 100000, fun x => ((decide ((x.1 : List Stk) = x.2.1), ()), ())⟩
theorem fLSame : FnOk Tryz.prog 28 := ⟨_, Tryz.func28, by decide, rfl⟩
theorem pLSame : PSound Tryz.prog 28 sLSame := by
  refine psound (T := tab) (S := (spOf [(90, iEqF), (91, sSSame.spec (lsOf []))])) (keep := k28) (by kernel_rfl) tabOk (spCons (.inl ⟨pEqF, fEqF⟩) (spCons (pOk pSSame fSSame (by decide) lsNil) spNil)) (by kernel_rfl) Tryz.func28 (by kernel_rfl) (by decide) fun xs hg hp => ?_
  obtain ⟨a, b, ⟨⟩⟩ := xs
  change List Stk at a b
  change a.length ≤ 100000 at hp
  clear hg
  show vfun tab _ k28 Tryz.f28 [.agg [.sl StT a], .agg [.sl StT b]] [] _
  refine Ev.out ?_
  repeat' (first | ((with_reducible refine Ev.mk ?_); conv => whnf) | (with_reducible refine And.intro ?_ ?_) | (intro h))
  all_goals (try simp only [decide_eq_true_eq, decide_eq_false_iff_not, beq_iff_eq, bne_iff_ne, beq_eq_false_iff_ne, bne_eq_false_iff_eq, Int.toNat_natCast, ge_iff_le, gt_iff_lt, Bool.not_eq_true', Bool.not_eq_false', Int.not_lt, Int.not_le, ne_eq] at *)
  all_goals (try dsimp only [Ty.den, Ty.dflt, StT] at *)
  all_goals (try simp only [eq4, ne4, eq3, ne3, eq2, ne2, Prod.eta, List.length_cons, List.length_nil, List.length_append, Nat.zero_add] at *)
  all_goals (try simp (disch := omega) only [wrap64] at *)
  all_goals try first | exact leafDraw (by kernel_rfl) | exact Leaf.mk trivial | (refine Leaf.mk ?_; omega) | (refine Leaf.mk ?_; unfold maxLen; omega)
  · refine Leaf.mk (ret1 (show false = decide (a = b) from ?_))
    rw [eq_comm, decide_eq_false_iff_not]; intro hc; exact h (by rw [hc])
  refine LoopVC.on (fun i : Nat => [(17, .i .i64 i)]) (fun _ => []) (fun i => i ≤ a.length ∧ a.take i = b.take i) (fun i => a.length - i) 0 rfl ⟨by omega, by simp⟩ ?_
  intro i ⟨hi, he⟩
  repeat' (first | ((with_reducible refine Ev.mk ?_); conv => whnf) | (with_reducible refine And.intro ?_ ?_) | (intro h))
  all_goals (try simp only [decide_eq_true_eq, decide_eq_false_iff_not, beq_iff_eq, bne_iff_ne, beq_eq_false_iff_ne, bne_eq_false_iff_eq, Int.toNat_natCast, ge_iff_le, gt_iff_lt, Bool.not_eq_true', Bool.not_eq_false', Int.not_lt, Int.not_le, ne_eq] at *)
  all_goals (try dsimp only [Ty.den, Ty.dflt, StT] at *)
  all_goals (try simp only [eq4, ne4, eq3, ne3, eq2, ne2, Prod.eta, List.length_cons, List.length_nil, List.length_append, Nat.zero_add] at *)
  all_goals (try simp (disch := omega) only [wrap64] at *)
  all_goals try first | exact leafDraw (by kernel_rfl) | exact Leaf.mk trivial | (refine Leaf.mk ?_; omega) | (refine Leaf.mk ?_; unfold maxLen; omega)
  all_goals first
    | exact Leaf.mk (ret1 (show false = decide (a = b) by rw [eq_comm, decide_eq_false_iff_not]; exact same_not stk0 (of_decide_eq_false (show decide (a.getD i stk0 = b.getD i stk0) = false from ‹_›))))
    | exact Leaf.mk ⟨i + 1, rfl, ⟨by omega, same_step stk0 (by omega) he (by omega) (of_decide_eq_true (show decide (a.getD i stk0 = b.getD i stk0) = true from ‹_›))⟩, by omega⟩
    | exact Leaf.mk (ret1 (show true = decide (a = b) by rw [eq_comm, decide_eq_true_eq]; exact same_end (by omega) he (by omega)))
    | skip
end Go.Proofs.YtkmfjlfejdoehaaGreat

set_option linter.unusedVariables false
set_option linter.unusedSimpArgs false
set_option maxRecDepth 8000
set_option maxHeartbeats 4000000
namespace Go.Proofs.YtkmfjlfejdoehaaGreat
open Go.Eng
theorem putR_okk {s : Stk} (h : check s = 0) : (putR11 s).1 = putS s := by unfold putR11; rw [if_pos h]
theorem one_okk {s : Stk} (h : check s = 0) : one s = putSmall ((putS s).length : Nat) ++ putS s := by rw [one, putR_okk h]
theorem rdSmall_one {s : Stk} (h : check s = 0) (r : List Int) : rdSmall (one s ++ r) 0 = ((((putS s).length : Nat) : Int), putS s ++ r, 0) := by
  have := putS_len h
  rw [one_okk h, List.append_assoc]
  exact rdSmall_put (by omega) (by omega) _
def rdL : Nat → List Int → List Stk
  | 0, _ => []
  | n + 1, b => (getS ((rdSmall b 0).2.1.take (rdSmall b 0).1.toNat)).1 :: rdL n ((rdSmall b 0).2.1.drop (rdSmall b 0).1.toNat)
theorem rdL_put : ∀ (l : List Stk), (∀ s ∈ l, check s = 0) → rdL l.length (l.flatMap one) = l
  | [], _ => rfl
  | s :: r, h => by
    have hs := h s List.mem_cons_self
    rw [List.length_cons, rdL, List.flatMap_cons, rdSmall_one hs]
    dsimp only
    rw [Int.toNat_natCast, List.take_left' rfl, List.drop_left' rfl, getS_put hs rfl, rdL_put r fun x hx => h x (List.mem_cons_of_mem _ hx)]
def readL (b : List Int) : List Stk := rdL (min (rdSmall b 0).1.toNat 1016) (rdSmall b 0).2.1
def getL (b : List Int) : List Stk × Int := if checkL (readL b) = 0 ∧ layF (readL b) = b then (readL b, 0) else ([], 4)
theorem one_pos (s : Stk) : 1 ≤ (one s).length := by
  have := (putSmall_len ((putR11 s).1.length : Nat)).1
  rw [one, List.length_append]; omega
theorem len_sum : ∀ (l : List Stk), l.length ≤ sumN l
  | [] => Nat.le_refl _
  | s :: r => by
    have := len_sum r
    have := one_pos s
    rw [sumN_cons, List.length_cons]; omega
structure LeafOk (l : List Stk) : Prop where
  all : ∀ s ∈ l, check s = 0
  len : l.length ≤ 1016
  size : sizeF l ≤ 1016
theorem leafOk {l : List Stk} (h : checkL l = 0) : LeafOk l := by
  have h1 : mayL l = 0 ∧ sizeF l ≤ 1016 := by
    unfold checkL at h
    split at h
    · rename_i h1
      split at h
      · omega
      · exact ⟨h1, by omega⟩
    · rename_i h1; exact absurd h h1
  have h2 := len_sum l
  have h3 : sumN l ≤ sizeF l := by rw [sizeF, layF, List.length_append]; exact Nat.le_add_left _ _
  exact ⟨(mayL_zero.1 h1.1).1, by omega, h1.2⟩
theorem rd_lay {l : List Stk} (h : checkL l = 0) : rdSmall (layF l) 0 = (((l.length : Nat) : Int), l.flatMap one, 0) := by
  have := (leafOk h).len
  exact rdSmall_put (by omega) (by omega) _
theorem getL_put {l : List Stk} {b : List Int} (h : checkL l = 0) (hb : layF l = b) : getL b = (l, 0) := by
  subst hb
  have ok := leafOk h
  have hr : readL (layF l) = l := by
    rw [readL, rd_lay h]
    dsimp only
    rw [Int.toNat_natCast, Nat.min_eq_left ok.len, rdL_put l ok.all]
  unfold getL
  rw [hr, if_pos ⟨h, rfl⟩]
theorem getL_not {b : List Int} (h : ∀ l, checkL l = 0 → layF l ≠ b) : getL b = ([], 4) := by
  unfold getL
  rw [if_neg (fun hc => h _ hc.1 hc.2)]
theorem isB_one (s : Stk) : isB (one s) := by
  refine isB_append (isB_small _) ?_
  unfold putR11
  split
  · exact isB_S s
  · exact fun x hx => by simp at hx
theorem isB_layF (l : List Stk) : isB (layF l) := isB_append (isB_small _) fun x hx => by
  obtain ⟨s, _, hs⟩ := List.mem_flatMap.1 hx
  exact isB_one s x hs
def putL (l : List Stk) : List Int × Int := if checkL l = 0 then (layF l, 0) else ([], checkL l)
theorem retP {u v : List Int × Int} (h : u = v) : (some ((u.1, ()), (u.2, ()), ()) : Option ((List Int × Unit) × (Int × Unit) × Unit)) = some ((v.1, ()), (v.2, ()), ()) := by rw [h]
def sLPut : PSpec := ⟨[.st SsT], [⟨false, [.d BT]⟩, ⟨false, [.d (.int .i64)]⟩], fun x => List.length x.1 ≤ 100000, fun x => (((putL x.1).1, ()), ((putL x.1).2, ()), ())⟩
theorem fLPut : FnOk Tryz.prog 31 := ⟨_, Tryz.func31, by decide, rfl⟩
theorem pLPut : PSound Tryz.prog 31 sLPut := by
  refine psound (T := tab) (S := (spOf [(24, sLCheck.spec (lsOf [])), (88, sLay14.spec (lsOf []))])) (keep := k31) (by kernel_rfl) tabOk (spCons (pOk pLCheck fLCheck (by decide) lsNil) (spCons (pOk pLay14 fLay14 (by decide) lsNil) spNil)) (by kernel_rfl) Tryz.func31 (by kernel_rfl) (by decide) fun xs hg hp => ?_
  obtain ⟨l, ⟨⟩⟩ := xs
  change List Stk at l
  change l.length ≤ 100000 at hp
  clear hg
  show vfun tab _ k31 Tryz.f31 [.agg [.sl StT l]] [] _
  refine Ev.out ?_
  repeat' (first | ((with_reducible refine Ev.mk ?_); conv => whnf) | (with_reducible refine And.intro ?_ ?_) | (intro h))
  all_goals (try simp only [decide_eq_true_eq, decide_eq_false_iff_not, beq_iff_eq, bne_iff_ne, beq_eq_false_iff_ne, bne_eq_false_iff_eq, Int.toNat_natCast, ge_iff_le, gt_iff_lt, Bool.not_eq_true', Bool.not_eq_false', Int.not_lt, Int.not_le, ne_eq] at *)
  all_goals (try dsimp only [Ty.den, Ty.dflt, StT] at *)
  all_goals (try simp only [eq4, ne4, eq3, ne3, eq2, ne2, Prod.eta, List.length_cons, List.length_nil, List.length_append, Nat.zero_add] at *)
  all_goals (try simp (disch := omega) only [wrap64] at *)
  all_goals try first | exact leafDraw (by kernel_rfl) | exact Leaf.mk trivial | (refine Leaf.mk ?_; omega) | (refine Leaf.mk ?_; unfold maxLen; omega)
  all_goals try exact Leaf.mk (show l.length ≤ 100000 by omega)
  all_goals first
    | (refine Leaf.mk (retP (u := ([], checkL l)) (v := putL l) ?_)
       rw [putL, if_neg (show ¬ checkL l = 0 from ‹_›)])
    | (refine Leaf.mk (retP (u := (layF l, 0)) (v := putL l) ?_)
       rw [putL, if_pos (show checkL l = 0 from ‹_›)])
def sLGet : PSpec := ⟨[.d BT], [⟨true, [.d SsT]⟩, ⟨false, [.d (.int .i64)]⟩], fun x => List.length (α := Int) x.1 ≤ 50000, fun x => (((getL x.1).1, ()), ((getL x.1).2, ()), ())⟩
theorem retGl {u v : List Stk × Int} (h : u = v) : (some ((u.1, ()), (u.2, ()), ()) : Option ((List Stk × Unit) × (Int × Unit) × Unit)) = some ((v.1, ()), (v.2, ()), ()) := by rw [h]
theorem putL_zero {l : List Stk} (h : (putL l).2 = 0) : checkL l = 0 ∧ (putL l).1 = layF l := by
  unfold putL at h ⊢
  split at h
  · rename_i hc; rw [if_pos hc]; exact ⟨hc, rfl⟩
  · rename_i hc; exact absurd h hc
theorem putL_not {l : List Stk} (h : ¬ (putL l).2 = 0) : ¬ checkL l = 0 := fun hc => h (by unfold putL; rw [if_pos hc])
theorem rdSmall_pos {b : List Int} (hx : ∀ x ∈ b, Eng.Good (.int .u8) x) (e : Int) : 0 ≤ (rdSmall b e).1 := by
  have := (getSmall_bd hx).2
  unfold rdSmall
  repeat' split
  all_goals first | exact Int.le_refl 0 | exact this
theorem round_l {l : List Stk} {i : Nat} (h : checkL l = 0) (hi : i < l.length) : rdSmall ((l.drop i).flatMap one) 0 = ((((putS (l.getD i stk0)).length : Nat) : Int), putS (l.getD i stk0) ++ (l.drop (i + 1)).flatMap one, 0) := by
  rw [drop_at stk0 hi, List.flatMap_cons, rdSmall_one ((leafOk h).all _ (getD_mem stk0 hi))]
structure RoundL (b : List Int) (N : Int) (i : Nat) (k : Int) (R : List Int) (E : Int) (acc : List Stk) : Prop where
  go : ∀ l, checkL l = 0 → layF l = b → i < l.length → k = ((putS (l.getD i stk0)).length : Nat) ∧ R = putS (l.getD i stk0) ++ (l.drop (i + 1)).flatMap one ∧ E = 0
  num : ∀ l, checkL l = 0 → layF l = b → N = l.length ∧ i ≤ l.length ∧ acc = l.take i
theorem RoundL.left {b R : List Int} {N k E : Int} {i : Nat} {acc : List Stk} (h : RoundL b N i k R E acc) (hi : (i : Int) < N) (hk : (R.length : Int) < k) : getL b = ([], 4) := getL_not fun l hl hb => by
  have := h.num l hl hb
  obtain ⟨h1, h2, -⟩ := h.go l hl hb (by omega)
  rw [h1, h2, List.length_append] at hk; omega
theorem RoundL.got {b R : List Int} {N k E : Int} {i : Nat} {acc : List Stk} (h : RoundL b N i k R E acc) (hi : (i : Int) < N) (hk : ¬ (getS (R.take k.toNat)).2 = 0) : getL b = ([], 4) := getL_not fun l hl hb => by
  have := h.num l hl hb
  obtain ⟨h1, h2, -⟩ := h.go l hl hb (by omega)
  rw [h1, h2, Int.toNat_natCast, List.take_left' rfl, getS_put ((leafOk hl).all _ (getD_mem stk0 (by omega))) rfl] at hk
  exact hk rfl
theorem RoundL.next {b R : List Int} {N k E : Int} {i : Nat} {acc : List Stk} (h : RoundL b N i k R E acc) (hi : (i : Int) < N) : ∀ l, checkL l = 0 → layF l = b → N = l.length ∧ i + 1 ≤ l.length ∧ R.drop k.toNat = (l.drop (i + 1)).flatMap one ∧ E = 0 ∧ acc ++ [(getS (R.take k.toNat)).1] = l.take (i + 1) := fun l hl hb => by
  have h0 := h.num l hl hb
  obtain ⟨h1, h2, h3⟩ := h.go l hl hb (by omega)
  have hil : i < l.length := by omega
  rw [h1, h2, Int.toNat_natCast, List.take_left' rfl, List.drop_left' rfl, getS_put ((leafOk hl).all _ (getD_mem stk0 hil)) rfl, take_at stk0 hil, h0.2.2]
  exact ⟨h0.1, hil, rfl, h3, rfl⟩
theorem end_l {b : List Int} {N : Int} {i : Nat} {rb : List Int} {acc : List Stk} (h : ∀ l, checkL l = 0 → layF l = b → N = l.length ∧ i ≤ l.length ∧ rb = (l.drop i).flatMap one ∧ acc = l.take i) (hi : N ≤ (i : Int) ∨ rb.length = 0) : ∀ l, checkL l = 0 → layF l = b → acc = l := fun l hl hb => by
  obtain ⟨h1, h2, h3, h4⟩ := h l hl hb
  rcases hi with hi | hi
  · rw [h4, List.take_of_length_le (by omega)]
  · have := len_sum (l.drop i)
    rw [sumN, ← h3, List.length_drop] at this
    rw [h4, List.take_of_length_le (by omega)]
theorem fin_bad {b : List Int} {acc : List Stk} (h : ∀ l, checkL l = 0 → layF l = b → acc = l) (hp : ¬ (putL acc).2 = 0) : getL b = ([], 4) := getL_not fun l hl hb => by
  have := h l hl hb
  subst this
  exact putL_not hp hl
theorem fin_not {b : List Int} {acc : List Stk} (h : ∀ l, checkL l = 0 → layF l = b → acc = l) (hp : (putL acc).2 = 0) (hn : ¬ strOfBytes (putL acc).1 = strOfBytes b) : getL b = ([], 4) := getL_not fun l hl hb => by
  have := h l hl hb
  subst this
  rw [(putL_zero hp).2, hb] at hn
  exact hn rfl
theorem fin_yes {b : List Int} {acc : List Stk} (hB : isB b) (hp : (putL acc).2 = 0) (hn : strOfBytes (putL acc).1 = strOfBytes b) : getL b = (acc, 0) := by
  obtain ⟨h1, h2⟩ := putL_zero hp
  rw [h2] at hn
  exact getL_put h1 (str_inj (isB_layF _) hB hn)
theorem fLGet : FnOk Tryz.prog 33 := ⟨_, Tryz.func33, by decide, rfl⟩
theorem pLGet : PSound Tryz.prog 33 sLGet := by
  refine psound (T := tab) (S := (spOf [(95, sNew.spec (lsOf [])), (96, sSmall.spec), (97, sLeft.spec), (98, sSGet.spec (lsOf [])), (31, sLPut.spec (lsOf [])), (99, sBEqual.spec (lsOf []))])) (keep := k33) (by kernel_rfl) tabOk (spCons (.inl ⟨nOk lsNil pNew, fNew⟩) (spCons (.inl ⟨pSmall, fSmall⟩) (spCons (.inl ⟨pLeft, fLeft⟩) (spCons (pOk pSGet fSGet (by decide) lsNil) (spCons (pOk pLPut fLPut (by decide) lsNil) (spCons (pOk pBEqual fBEqual (by decide) lsNil) spNil)))))) (by kernel_rfl) Tryz.func33 (by kernel_rfl) (by decide) fun xs hg hp => ?_
  obtain ⟨b, ⟨⟩⟩ := xs
  obtain ⟨⟨-, hx⟩, -⟩ := hg
  change List Int at b
  change b.length ≤ 50000 at hp
  have hB : isB b := isB_good hx
  change ∀ x ∈ b, Eng.Good (.int .u8) x at hx
  have hb1 := rdSmall_suf b 0
  have hl1 := suf_len hb1
  show vfun tab _ k33 Tryz.f33 [.sl (.int .u8) b] [] _
  refine Ev.out ?_
  repeat' (first | ((with_reducible refine Ev.mk ?_); conv => whnf) | (with_reducible refine And.intro ?_ ?_) | (intro h))
  all_goals (try simp only [decide_eq_true_eq, decide_eq_false_iff_not, beq_iff_eq, bne_iff_ne, beq_eq_false_iff_ne, bne_eq_false_iff_eq, Int.toNat_natCast, ge_iff_le, gt_iff_lt, Bool.not_eq_true', Bool.not_eq_false', Int.not_lt, Int.not_le, ne_eq] at *)
  all_goals (try dsimp only [Ty.den, Ty.dflt, StT, sNew, sSmall] at *)
  all_goals (try simp only [eq4, ne4, eq3, ne3, eq2, ne2, Prod.eta, List.length_cons, List.length_nil, List.length_append, Nat.zero_add] at *)
  all_goals (try simp (disch := omega) only [wrap64] at *)
  all_goals try first | exact leafDraw (by kernel_rfl) | exact Leaf.mk trivial | (refine Leaf.mk ?_; omega) | (refine Leaf.mk ?_; unfold maxLen; omega)
  generalize hN : (rdSmall b 0).1 = N
  generalize hb0 : (rdSmall b 0).2.1 = b0 at *
  generalize he0 : (rdSmall b 0).2.2 = e0
  have h0 : ∀ l, checkL l = 0 → layF l = b → N = l.length ∧ b0 = l.flatMap one ∧ e0 = 0 := fun l hl hb => by
    have h1 := rd_lay hl
    rw [hb] at h1
    rw [h1] at hN hb0 he0
    exact ⟨hN.symm, hb0.symm, he0.symm⟩
  refine LoopVC.weak [(.cell 2 0, .nil 38 StT)] (fun a : Nat × List Int × Int × List Stk => [(7, .i .i64 a.1)]) (fun a => [(1, .box [.sl (.int .u8) a.2.1, .i .i64 a.2.2.1]), (3, .arr 38 StT a.2.2.2)]) (fun a => a.2.1 <:+ b ∧ a.1 + a.2.1.length ≤ b.length ∧ a.2.2.2.length = a.1 ∧ ∀ l, checkL l = 0 → layF l = b → N = l.length ∧ a.1 ≤ l.length ∧ a.2.1 = (l.drop a.1).flatMap one ∧ a.2.2.1 = 0 ∧ a.2.2.2 = l.take a.1) (fun a => a.2.1.length) (0, b0, e0, []) (Ev.mk ?_)
  (conv => whnf)
  refine ⟨Leaf.mk ?_, Leaf.mk ?_, ?_⟩
  · rfl
  · refine ⟨hb1, by dsimp only; omega, rfl, fun l hl hb => ?_⟩
    obtain ⟨h1, h2, h3⟩ := h0 l hl hb
    exact ⟨h1, Nat.zero_le _, h2, h3, rfl⟩
  intro ⟨i, rb, re, acc⟩ ⟨hrb, hil, hacc, hv⟩
  dsimp only at hrb hil hacc hv ⊢
  have hrl := suf_len hrb
  have hs1 := rdSmall_suf rb re
  have hs1l := suf_len hs1
  repeat' (first | ((with_reducible refine Ev.mk ?_); conv => whnf) | (with_reducible refine And.intro ?_ ?_) | (intro h))
  all_goals (try simp only [decide_eq_true_eq, decide_eq_false_iff_not, beq_iff_eq, bne_iff_ne, beq_eq_false_iff_ne, bne_eq_false_iff_eq, Int.toNat_natCast, ge_iff_le, gt_iff_lt, Bool.not_eq_true', Bool.not_eq_false', Int.not_lt, Int.not_le, ne_eq] at *)
  all_goals (try dsimp only [Ty.den, Ty.dflt, StT, sNew, sSmall, sLeft] at *)
  all_goals (try simp only [eq4, ne4, eq3, ne3, eq2, ne2, Prod.eta, List.length_cons, List.length_nil, List.length_append, Nat.zero_add] at *)
  all_goals (try simp (disch := omega) only [wrap64] at *)
  all_goals try first | exact leafDraw (by kernel_rfl) | exact Leaf.mk trivial | (refine Leaf.mk ?_; omega) | (refine Leaf.mk ?_; unfold maxLen; omega)
  all_goals
    have hcut := suf_cut (hs1.trans hrb)
    have hk0 : 0 ≤ (rdSmall rb re).1 := rdSmall_pos (fun x h => hx x (hrb.subset h)) re
    have hRB : (rdSmall rb re).2.1 <:+ b := hs1.trans hrb
    try simp only [hcut] at *
    have hE : RoundL b N i (rdSmall rb re).1 (rdSmall rb re).2.1 (rdSmall rb re).2.2 acc := ⟨fun l hl hb hi => by
      obtain ⟨h1, h2, h3, h4, h5⟩ := hv l hl hb
      rw [h3, h4, round_l hl hi]; exact ⟨rfl, rfl, rfl⟩, fun l hl hb => by
      obtain ⟨h1, h2, h3, h4, h5⟩ := hv l hl hb
      exact ⟨h1, h2, h5⟩⟩
    have hend : N ≤ (i : Int) ∨ rb.length = 0 → ∀ l, checkL l = 0 → layF l = b → acc = l := end_l fun l hl hb => by
      obtain ⟨h1, h2, h3, h4, h5⟩ := hv l hl hb
      exact ⟨h1, h2, h3, h5⟩
    have hno : (i : Int) < N → (rdSmall rb re).2.1.length = rb.length → getL b = ([], 4) := fun hi hc => getL_not fun l hl hb => by
      obtain ⟨h1, h2, h3, h4, h5⟩ := hv l hl hb
      have h6 := (hE.go l hl hb (by omega)).2.1
      have h7 : rb = one (l.getD i stk0) ++ (l.drop (i + 1)).flatMap one := by rw [h3, drop_at stk0 (by omega), List.flatMap_cons]
      rw [h6, h7, one_okk ((leafOk hl).all _ (getD_mem stk0 (by omega)))] at hc
      have := (putSmall_len ((putS (l.getD i stk0)).length : Nat)).1
      simp only [List.length_append] at hc; omega
    generalize (rdSmall rb re).1 = k at *
    generalize (rdSmall rb re).2.1 = R at *
    generalize (rdSmall rb re).2.2 = E at *
  · exact Leaf.mk (retGl (u := ([], 4)) (v := getL b) (hno (by omega) (by omega)).symm)
  · exact Leaf.mk (retGl (u := ([], 4)) (v := getL b) (hE.left (by omega) (by omega)).symm)
  · exact Leaf.mk hk0
  · refine Leaf.mk (show List.length (α := Int) _ ≤ 100000 from ?_)
    rw [List.length_drop, List.length_take]; omega
  · exact Leaf.mk (retGl (u := ([], 4)) (v := getL b) (hE.got (by omega) (show ¬ (getS (R.take k.toNat)).2 = 0 from h)).symm)
  · exact Leaf.mk hk0
  · refine Leaf.mk ?_
    rw [List.length_drop, List.length_take]; omega
  · refine Leaf.mk (Exists.intro (i + 1, R.drop k.toNat, 0, acc ++ [(getS (R.take k.toNat)).1]) ⟨?_, ⟨(List.drop_suffix _ _).trans hRB, ?_, by dsimp only; rw [List.length_append]; simp; omega, fun l hl hb => ?_⟩, ?_⟩)
    · rw [List.take_length]; rfl
    · dsimp only; rw [List.length_drop]; omega
    · obtain ⟨h1, h2, h3, h4, h5⟩ := hE.next (by omega) l hl hb
      exact ⟨h1, h2, h3, rfl, h5⟩
    · dsimp only; rw [List.length_drop]; omega
  all_goals try exact Leaf.mk (show acc.length ≤ 100000 by omega)
  all_goals
    have hend := hend (by omega)
  all_goals first
    | exact Leaf.mk (retGl (u := ([], 4)) (v := getL b) (fin_bad hend (show ¬ (putL acc).2 = 0 from ‹_›)).symm)
    | exact Leaf.mk (retGl (u := ([], 4)) (v := getL b) (fin_not hend (show (putL acc).2 = 0 from ‹_›) (fun hc => beq_eq_false_iff_ne.1 (show (strOfBytes b == strOfBytes (putL acc).1) = false from ‹_›) hc.symm)).symm)
    | exact Leaf.mk (retGl (u := (acc, 0)) (v := getL b) (fin_yes hB (show (putL acc).2 = 0 from ‹_›) (beq_iff_eq.1 (show (strOfBytes b == strOfBytes (putL acc).1) = true from ‹_›)).symm).symm)
end Go.Proofs.YtkmfjlfejdoehaaGreat
