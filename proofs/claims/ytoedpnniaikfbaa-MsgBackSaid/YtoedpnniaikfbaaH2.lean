import Derived.Test.YtoedpnniaikfbaaH1



set_option linter.unusedVariables false
set_option linter.unusedSimpArgs false
set_option maxRecDepth 8000
set_option maxHeartbeats 4000000
namespace Go.Proofs.Ytoedpnniaikfbaa
open Go.Eng
def wide (m : Msg) : Bool := decide (1 ≤ m.1 ∧ m.1 ≤ 3)
def sWide : PSpec := ⟨[.d MsgT], [⟨false, [.d .bool]⟩], fun _ => True, fun x => ((wide x.1, ()), ())⟩
def sWideR : PSpec := sWide
theorem fWide : FnOk Try.prog 19 := ⟨_, Try.func19, by decide, rfl⟩
theorem pWide : PSound Try.prog 19 sWide := by
  refine psound (T := tab) (S := (spOf [])) (keep := k19) (by kernel_rfl) tabOk spNil (by kernel_rfl) Try.func19 (by kernel_rfl) (by decide) fun xs hg hp => ?_
  obtain ⟨⟨kind, key, txn, ts, gone, val⟩, ⟨⟩⟩ := xs
  obtain ⟨⟨hk, -⟩, -⟩ := hg
  change List UInt8 at key
  change List UInt8 at val
  change Int at kind txn ts
  change Bool at gone
  have hk := bdu8 hk
  show vfun tab _ k19 Try.f19 [.agg [.i .u8 kind, .s key, .i .i64 txn, .i .i64 ts, .b gone, .s val]] [] _
  refine Ev.out ?_
  repeat' (first | ((with_reducible refine Ev.mk ?_); conv => whnf) | (with_reducible refine And.intro ?_ ?_) | (intro h))
  all_goals (try simp only [decide_eq_true_eq, decide_eq_false_iff_not, beq_iff_eq, bne_iff_ne, beq_eq_false_iff_ne, bne_eq_false_iff_eq, Int.toNat_natCast, ge_iff_le, gt_iff_lt, Bool.not_eq_true', Bool.not_eq_false', Int.not_lt, Int.not_le, ne_eq] at *)
  all_goals (try dsimp only [Ty.den, Ty.dflt, MsgT] at *)
  all_goals (try simp only [eq4, ne4, eq3, ne3, eq2, ne2, Prod.eta, List.length_cons, List.length_nil, List.length_append, Nat.zero_add] at *)
  all_goals (try simp (disch := omega) only [wrap64] at *)
  all_goals
    refine Leaf.mk (ret1 (show _ = wide (kind, key, txn, ts, gone, val) from ?_))
    unfold wide
    first
    | (rw [eq_comm, decide_eq_false_iff_not]; omega)
    | (rw [eq_comm, decide_eq_true_eq]; omega)
    | (congr 1; simp only [eq_iff_iff]; omega)
    | (rw [Bool.eq_iff_iff]; simp only [decide_eq_true_eq, beq_iff_eq]; omega)
theorem fWideR : FnOk Try.prog 20 := ⟨_, Try.func20, by decide, rfl⟩
theorem pWideR : PSound Try.prog 20 sWideR := by
  refine psound (T := tab) (S := (spOf [])) (keep := k20) (by kernel_rfl) tabOk spNil (by kernel_rfl) Try.func20 (by kernel_rfl) (by decide) fun xs hg hp => ?_
  obtain ⟨⟨kind, key, txn, ts, gone, val⟩, ⟨⟩⟩ := xs
  obtain ⟨⟨hk, -⟩, -⟩ := hg
  change List UInt8 at key
  change List UInt8 at val
  change Int at kind txn ts
  change Bool at gone
  have hk := bdu8 hk
  show vfun tab _ k20 Try.f20 [.agg [.i .u8 kind, .s key, .i .i64 txn, .i .i64 ts, .b gone, .s val]] [] _
  refine Ev.out ?_
  repeat' (first | ((with_reducible refine Ev.mk ?_); conv => whnf) | (with_reducible refine And.intro ?_ ?_) | (intro h))
  all_goals (try simp only [decide_eq_true_eq, decide_eq_false_iff_not, beq_iff_eq, bne_iff_ne, beq_eq_false_iff_ne, bne_eq_false_iff_eq, Int.toNat_natCast, ge_iff_le, gt_iff_lt, Bool.not_eq_true', Bool.not_eq_false', Int.not_lt, Int.not_le, ne_eq] at *)
  all_goals (try dsimp only [Ty.den, Ty.dflt, MsgT] at *)
  all_goals (try simp only [eq4, ne4, eq3, ne3, eq2, ne2, Prod.eta, List.length_cons, List.length_nil, List.length_append, Nat.zero_add] at *)
  all_goals (try simp (disch := omega) only [wrap64] at *)
  all_goals
    refine Leaf.mk (ret1 (show _ = wide (kind, key, txn, ts, gone, val) from ?_))
    unfold wide
    first
    | (rw [eq_comm, decide_eq_false_iff_not]; omega)
    | (rw [eq_comm, decide_eq_true_eq]; omega)
    | (congr 1; simp only [eq_iff_iff]; omega)
    | (rw [Bool.eq_iff_iff]; simp only [decide_eq_true_eq, beq_iff_eq]; omega)
def about (k : List UInt8) (m : Msg) : Bool := wide m || decide (m.1 = 0 ∧ m.2.1 = k)
def sAbout : PSpec := ⟨[.d MsgT, .d .str], [⟨false, [.d .bool]⟩], fun _ => True, fun x => ((about x.2.1 x.1, ()), ())⟩
def sAboutR : PSpec := sAbout
theorem fAbout : FnOk Try.prog 57 := ⟨_, Try.func57, by decide, rfl⟩
theorem pAbout : PSound Try.prog 57 sAbout := by
  refine psound (T := tab) (S := (spOf [(19, sWide.spec (lsOf []))])) (keep := k57) (by kernel_rfl) tabOk (spCons (pOk pWide fWide (by decide) lsNil) spNil) (by kernel_rfl) Try.func57 (by kernel_rfl) (by decide) fun xs hg hp => ?_
  obtain ⟨⟨kind, key, txn, ts, gone, val⟩, k, ⟨⟩⟩ := xs
  obtain ⟨⟨hk, -⟩, -⟩ := hg
  change List UInt8 at key
  change List UInt8 at val
  change Int at kind txn ts
  change Bool at gone
  have hk := bdu8 hk
  change List UInt8 at k
  show vfun tab _ k57 Try.f57 [.agg [.i .u8 kind, .s key, .i .i64 txn, .i .i64 ts, .b gone, .s val], .s k] [] _
  refine Ev.out ?_
  repeat' (first | ((with_reducible refine Ev.mk ?_); conv => whnf) | (with_reducible refine And.intro ?_ ?_) | (intro h))
  all_goals (try simp only [decide_eq_true_eq, decide_eq_false_iff_not, beq_iff_eq, bne_iff_ne, beq_eq_false_iff_ne, bne_eq_false_iff_eq, Int.toNat_natCast, ge_iff_le, gt_iff_lt, Bool.not_eq_true', Bool.not_eq_false', Int.not_lt, Int.not_le, ne_eq] at *)
  all_goals (try dsimp only [Ty.den, Ty.dflt, MsgT, sWide, sWideR] at *)
  all_goals (try simp only [eq4, ne4, eq3, ne3, eq2, ne2, Prod.eta, List.length_cons, List.length_nil, List.length_append, Nat.zero_add] at *)
  all_goals (try simp (disch := omega) only [wrap64] at *)
  all_goals try first | exact leafDraw (by kernel_rfl) | exact Leaf.mk trivial | (refine Leaf.mk ?_; omega) | (refine Leaf.mk ?_; unfold maxLen; omega)
  all_goals
    refine Leaf.mk (ret1 (show _ = about k (kind, key, txn, ts, gone, val) from ?_))
    unfold about
    dsimp only
    try rw [‹wide _ = false›]
    try rw [‹wide _ = true›]
    first
    | rfl
    | (rw [decide_eq_false (fun hc => by omega)]; rfl)
    | (rw [Bool.eq_iff_iff]; simp only [Bool.false_or, decide_eq_true_eq, beq_iff_eq]
       exact ⟨fun h => ⟨by assumption, h⟩, fun h => h.2⟩)
theorem fAboutR : FnOk Try.prog 63 := ⟨_, Try.func63, by decide, rfl⟩
theorem pAboutR : PSound Try.prog 63 sAboutR := by
  refine psound (T := tab) (S := (spOf [(20, sWideR.spec (lsOf []))])) (keep := k63) (by kernel_rfl) tabOk (spCons (pOk pWideR fWideR (by decide) lsNil) spNil) (by kernel_rfl) Try.func63 (by kernel_rfl) (by decide) fun xs hg hp => ?_
  obtain ⟨⟨kind, key, txn, ts, gone, val⟩, k, ⟨⟩⟩ := xs
  obtain ⟨⟨hk, -⟩, -⟩ := hg
  change List UInt8 at key
  change List UInt8 at val
  change Int at kind txn ts
  change Bool at gone
  have hk := bdu8 hk
  change List UInt8 at k
  show vfun tab _ k63 Try.f63 [.agg [.i .u8 kind, .s key, .i .i64 txn, .i .i64 ts, .b gone, .s val], .s k] [] _
  refine Ev.out ?_
  repeat' (first | ((with_reducible refine Ev.mk ?_); conv => whnf) | (with_reducible refine And.intro ?_ ?_) | (intro h))
  all_goals (try simp only [decide_eq_true_eq, decide_eq_false_iff_not, beq_iff_eq, bne_iff_ne, beq_eq_false_iff_ne, bne_eq_false_iff_eq, Int.toNat_natCast, ge_iff_le, gt_iff_lt, Bool.not_eq_true', Bool.not_eq_false', Int.not_lt, Int.not_le, ne_eq] at *)
  all_goals (try dsimp only [Ty.den, Ty.dflt, MsgT, sWide, sWideR] at *)
  all_goals (try simp only [eq4, ne4, eq3, ne3, eq2, ne2, Prod.eta, List.length_cons, List.length_nil, List.length_append, Nat.zero_add] at *)
  all_goals (try simp (disch := omega) only [wrap64] at *)
  all_goals try first | exact leafDraw (by kernel_rfl) | exact Leaf.mk trivial | (refine Leaf.mk ?_; omega) | (refine Leaf.mk ?_; unfold maxLen; omega)
  all_goals
    refine Leaf.mk (ret1 (show _ = about k (kind, key, txn, ts, gone, val) from ?_))
    unfold about
    dsimp only
    try rw [‹wide _ = false›]
    try rw [‹wide _ = true›]
    first
    | rfl
    | (rw [decide_eq_false (fun hc => by omega)]; rfl)
    | (rw [Bool.eq_iff_iff]; simp only [Bool.false_or, decide_eq_true_eq, beq_iff_eq]
       exact ⟨fun h => ⟨by assumption, h⟩, fun h => h.2⟩)
def applyM (s : Stk) (m : Msg) : Stk := if mcheck m = 0 ∧ about s.1 m = true then (if m.1 = 1 then commit s m.2.2.1 m.2.2.2.1 else if m.1 = 2 then abort s m.2.2.1 else if m.1 = 3 then prune s m.2.2.2.1 else write s (m.2.2.1, 0, m.2.2.2.2.1, m.2.2.2.2.2)) else s
def sApply : PSpec := ⟨[.d StT, .d MsgT], [⟨true, [.d StT]⟩], fun x => List.length x.1.2 ≤ 100000, fun x => ((applyM x.1 x.2.1, ()), ())⟩
def sApplyR : PSpec := sApply
theorem fApply : FnOk Try.prog 17 := ⟨_, Try.func17, by decide, rfl⟩
theorem pApply : PSound Try.prog 17 sApply := by
  refine psound (T := tab) (S := (spOf [(21, sMCheck.spec (lsOf [])), (57, sAbout.spec (lsOf [])), (58, sCloneV.spec (lsOf [])), (59, sCommit.spec (lsOf [])), (60, sAbort.spec (lsOf [])), (61, sPrune.spec (lsOf [])), (62, sWrite.spec (lsOf []))])) (keep := k17) (by kernel_rfl) tabOk (spCons (pOk pMCheck fMCheck (by decide) lsNil) (spCons (pOk pAbout fAbout (by decide) lsNil) (spCons (pOk pCloneV fCloneV (by decide) lsNil) (spCons (pOk pCommit fCommit (by decide) lsNil) (spCons (pOk pAbort fAbort (by decide) lsNil) (spCons (pOk pPrune fPrune (by decide) lsNil) (spCons (pOk pWrite fWrite (by decide) lsNil) spNil))))))) (by kernel_rfl) Try.func17 (by kernel_rfl) (by decide) fun xs hg hp => ?_
  obtain ⟨⟨skey, xs⟩, ⟨kind, key, txn, ts, gone, val⟩, ⟨⟩⟩ := xs
  obtain ⟨-, hg⟩ := hg
  obtain ⟨⟨hk, -⟩, -⟩ := hg
  change List UInt8 at key
  change List UInt8 at val
  change Int at kind txn ts
  change Bool at gone
  have hk := bdu8 hk
  change List UInt8 at skey
  change List Ver at xs
  change xs.length ≤ 100000 at hp
  show vfun tab _ k17 Try.f17 [.agg [.s skey, .sl VerT xs], .agg [.i .u8 kind, .s key, .i .i64 txn, .i .i64 ts, .b gone, .s val]] [] _
  refine Ev.out ?_
  repeat' (first | ((with_reducible refine Ev.mk ?_); conv => whnf) | (with_reducible refine And.intro ?_ ?_) | (intro h))
  all_goals (try simp only [decide_eq_true_eq, decide_eq_false_iff_not, beq_iff_eq, bne_iff_ne, beq_eq_false_iff_ne, bne_eq_false_iff_eq, Int.toNat_natCast, ge_iff_le, gt_iff_lt, Bool.not_eq_true', Bool.not_eq_false', Int.not_lt, Int.not_le, ne_eq] at *)
  all_goals (try dsimp only [Ty.den, Ty.dflt, MsgT, VerT, sMCheck, sAbout, sAboutR, sMCheckR] at *)
  all_goals (try simp only [eq4, ne4, eq3, ne3, eq2, ne2, Prod.eta, List.length_cons, List.length_nil, List.length_append, Nat.zero_add] at *)
  all_goals (try simp (disch := omega) only [wrap64] at *)
  all_goals try first | exact leafDraw (by kernel_rfl) | exact Leaf.mk trivial | (refine Leaf.mk ?_; omega) | (refine Leaf.mk ?_; unfold maxLen; omega)
  all_goals try first
    | exact Leaf.mk (show xs.length ≤ 100000 from hp)
    | exact Leaf.mk (show xs.length ≤ 1000000 by omega)
  all_goals
    refine Leaf.mk (ret1 (show (_ : Stk) = applyM (skey, xs) (kind, key, txn, ts, gone, val) from ?_))
    unfold applyM
    first
    | (refine Eq.trans ?_ (if_neg (fun hc => h hc.1)).symm; rfl)
    | (refine Eq.trans ?_ (if_neg (fun hc => Bool.noConfusion (hc.2.symm.trans h))).symm; rfl)
    | (refine Eq.trans ?_ (if_pos ⟨‹mcheck _ = 0›, ‹about _ _ = true›⟩).symm
       first
       | (refine Eq.trans ?_ (if_pos ‹kind = 1›).symm; rfl)
       | (refine Eq.trans ?_ (if_neg ‹¬ kind = 1›).symm
          first
          | (refine Eq.trans ?_ (if_pos ‹kind = 2›).symm; rfl)
          | (refine Eq.trans ?_ (if_neg ‹¬ kind = 2›).symm
             first
             | (refine Eq.trans ?_ (if_pos ‹kind = 3›).symm; rfl)
             | (refine Eq.trans ?_ (if_neg ‹¬ kind = 3›).symm; rfl))))
end Go.Proofs.Ytoedpnniaikfbaa
