import Derived.Test.YtoedpnniaikfbaaH7



set_option linter.unusedVariables false
set_option linter.unusedSimpArgs false
set_option maxRecDepth 8000
set_option maxHeartbeats 4000000
namespace Go.Proofs.Ytoedpnniaikfbaa
open Go.Eng
def gvB (g : Bool) (v : List UInt8) : List Int := (if g = true then 1 else 0) :: putText v
def putM (m : Msg) : List Int := m.1 :: ((if m.1 = 0 then putText m.2.1 else []) ++ ((if m.1 = 3 then [] else putSmall m.2.2.1) ++ ((if m.1 = 1 ∨ m.1 = 3 then putSmall m.2.2.2.1 else []) ++ (if m.1 = 0 then gvB m.2.2.2.2.1 m.2.2.2.2.2 else []))))
structure MsgOk (m : Msg) : Prop where
  kind : m.1 ≤ 3
  form : mForm m
  txn : 0 ≤ m.2.2.1 ∧ m.2.2.1 ≤ 1099511627776
  ts : 0 ≤ m.2.2.2.1 ∧ m.2.2.2.1 ≤ 1099511627776
  key : m.2.1.length ≤ 16
  val : m.2.2.2.2.2.length ≤ 24
theorem mcheck_ok {m : Msg} (h : mcheck m = 0) : MsgOk m := by
  unfold mcheck at h
  split at h
  · exact absurd h (by decide)
  split at h
  · exact absurd h (by decide)
  split at h
  · exact absurd h (by decide)
  split at h
  · exact absurd h (by decide)
  rename_i h1 h2 h3 h4
  have h5 : inB m.2.2.1 = true ∧ inB m.2.2.2.1 = true := Classical.byContradiction fun hc => h3 (.inl hc)
  exact ⟨by omega, Classical.byContradiction h2, of_decide_eq_true h5.1, of_decide_eq_true h5.2, by omega, by omega⟩
theorem gvB_len (g : Bool) (v : List UInt8) : (gvB g v).length ≤ 2 * v.length + 3 := by
  have := putText_len v
  rw [gvB, List.length_cons]; omega
theorem putM_len {m : Msg} (h : mcheck m = 0) : (putM m).length ≤ 104 := by
  have ok := mcheck_ok h
  have h1 := putText_len m.2.1
  have h2 := putSmall_len m.2.2.1
  have h3 := putSmall_len m.2.2.2.1
  have h4 := gvB_len m.2.2.2.2.1 m.2.2.2.2.2
  have := ok.key
  have := ok.val
  unfold putM
  simp only [List.length_cons, List.length_append]
  repeat' split
  all_goals (try simp only [List.length_nil]); omega
theorem isB_gv (g : Bool) (v : List UInt8) : isB (gvB g v) := by
  intro x hx
  rcases List.mem_cons.1 hx with h | h
  · rw [h]; split <;> omega
  · exact isB_put _ x h
theorem isB_M {m : Msg} (h0 : 0 ≤ m.1) (h : m.1 ≤ 255) : isB (putM m) := by
  intro x hx
  rcases List.mem_cons.1 hx with hx | hx
  · rw [hx]; omega
  · have hn : isB ([] : List Int) := fun x hx => by simp at hx
    refine (isB_append ?_ (isB_append ?_ (isB_append ?_ ?_))) x hx
    · split; exact isB_put _; exact hn
    · split; exact hn; exact isB_small _
    · split; exact isB_small _; exact hn
    · split; exact isB_gv _ _; exact hn
def putR12 (m : Msg) : List Int × Int := if mcheck m = 0 then (putM m, 0) else ([], mcheck m)
def sMPut : PSpec := ⟨[.d MsgT], [⟨false, [.o 5 (.int .u8)]⟩, ⟨false, [.d (.int .i64)]⟩], fun _ => True, fun x => (((putR12 x.1).1, ()), ((putR12 x.1).2, ()), ())⟩
def sMPutR : PSpec := sMPut
def sMFlag : PSpec := sFlag
theorem fMFlag : FnOk Try.prog 80 := ⟨_, Try.func80, by decide, rfl⟩
theorem pMFlag : PSound Try.prog 80 sMFlag := by
  refine psound (T := tab) (S := (spOf [])) (keep := k80) (by kernel_rfl) tabOk spNil (by kernel_rfl) Try.func80 (by kernel_rfl) (by decide) fun xs hg hp => ?_
  obtain ⟨g, ⟨⟩⟩ := xs
  change Bool at g
  show vfun tab _ k80 Try.f80 [.b g] [] _
  refine Ev.out ?_
  repeat' (first | ((with_reducible refine Ev.mk ?_); conv => whnf) | (with_reducible refine And.intro ?_ ?_) | (intro h))
  · exact Leaf.mk (ret1 (show (1 : Int) = if g = true then 1 else 0 by rw [if_pos h]))
  · exact Leaf.mk (ret1 (show (0 : Int) = if g = true then 1 else 0 by rw [if_neg (by rw [h]; simp)]))
theorem fMPut : FnOk Try.prog 31 := ⟨_, Try.func31, by decide, rfl⟩
theorem pMPut : PSound Try.prog 31 sMPut := by
  refine psound (T := tab) (S := (spOf [(21, sMCheck.spec (lsOf [])), (68, sOf.spec (lsOf [])), (78, sPutText.spec (lsOf [])), (79, sPutSmall.spec (lsOf [])), (80, sMFlag.spec (lsOf []))])) (keep := k31) (by kernel_rfl) tabOk (spCons (pOk pMCheck fMCheck (by decide) lsNil) (spCons (pOk pOf fOf (by decide) lsNil) (spCons (pOk pPutText fPutText (by decide) lsNil) (spCons (pOk pPutSmall fPutSmall (by decide) lsNil) (spCons (pOk pMFlag fMFlag (by decide) lsNil) spNil))))) (by kernel_rfl) Try.func31 (by kernel_rfl) (by decide) fun xs hg hp => ?_
  obtain ⟨⟨kind, key, txn, ts, gone, val⟩, ⟨⟩⟩ := xs
  obtain ⟨⟨hk, -⟩, -⟩ := hg
  change List UInt8 at key
  change List UInt8 at val
  change Int at kind txn ts
  change Bool at gone
  have hk := bdu8 hk
  clear hp
  show vfun tab _ k31 Try.f31 [.agg [.i .u8 kind, .s key, .i .i64 txn, .i .i64 ts, .b gone, .s val]] [] _
  refine Ev.out ?_
  repeat' (first | ((with_reducible refine Ev.mk ?_); conv => whnf) | (with_reducible refine And.intro ?_ ?_) | (intro h))
  all_goals (try simp only [decide_eq_true_eq, decide_eq_false_iff_not, beq_iff_eq, bne_iff_ne, beq_eq_false_iff_ne, bne_eq_false_iff_eq, Int.toNat_natCast, ge_iff_le, gt_iff_lt, Bool.not_eq_true', Bool.not_eq_false', Int.not_lt, Int.not_le, ne_eq] at *)
  all_goals (try dsimp only [Ty.den, Ty.dflt, MsgT, sMCheck, sOf, ofK, sPutText, sPutSmall, sMFlag, sFlag] at *)
  all_goals (try simp only [eq4, ne4, eq3, ne3, eq2, ne2, Prod.eta, List.length_cons, List.length_nil, List.length_append, Nat.zero_add] at *)
  all_goals (try simp (disch := omega) only [wrap64] at *)
  all_goals try first | exact leafDraw (by kernel_rfl) | exact Leaf.mk trivial | (refine Leaf.mk ?_; omega) | (refine Leaf.mk ?_; unfold maxLen; omega)
  all_goals try simp only [decide_eq_true_eq, decide_eq_false_iff_not] at *
  all_goals try exact Leaf.mk (retB (u := ([], mcheck (kind, key, txn, ts, gone, val))) (if_neg h).symm)
  all_goals
    have ok := mcheck_ok ‹mcheck (kind, key, txn, ts, gone, val) = 0›
    have hk1 := ok.key
    have hv1 := ok.val
    have hk2 := ok.kind
    have ht1 := ok.txn
    have ht2 := ok.ts
    dsimp only at hk1 hv1 hk2 ht1 ht2
    try rw [wrapu ht1] at *
    try rw [wrapu ht2] at *
    have hl1 := putText_len key
    have hl2 := putSmall_len txn
    have hl3 := putSmall_len ts
    have hl4 := putText_len val
  all_goals try first
    | (refine Leaf.mk ?_; omega)
    | (refine Leaf.mk ?_; unfold maxLen; omega)
    | exact Leaf.mk (show key.length ≤ 100000 by omega)
    | exact Leaf.mk (show val.length ≤ 100000 by omega)
  all_goals
    refine Leaf.mk (retB (u := (_, 0)) (v := putR12 (kind, key, txn, ts, gone, val)) ?_)
    rw [putR12, if_pos ‹mcheck (kind, key, txn, ts, gone, val) = 0›]
    rcases (by omega : kind = 0 ∨ kind = 1 ∨ kind = 2 ∨ kind = 3) with rfl | rfl | rfl | rfl
  all_goals first
    | (exfalso; omega)
    | (simp [putM, gvB, *]; done)
    | (simp_all [putM, gvB]; done)
theorem fMPutR : FnOk Try.prog 32 := ⟨_, Try.func32, by decide, rfl⟩
theorem pMPutR : PSound Try.prog 32 sMPutR := by
  refine psound (T := tab) (S := (spOf [(22, sMCheckR.spec (lsOf [])), (81, sPutTextR.spec (lsOf [])), (82, sPutSmallR.spec (lsOf []))])) (keep := k32) (by kernel_rfl) tabOk (spCons (pOk pMCheckR fMCheckR (by decide) lsNil) (spCons (pOk pPutTextR fPutTextR (by decide) lsNil) (spCons (pOk pPutSmallR fPutSmallR (by decide) lsNil) spNil))) (by kernel_rfl) Try.func32 (by kernel_rfl) (by decide) fun xs hg hp => ?_
  obtain ⟨⟨kind, key, txn, ts, gone, val⟩, ⟨⟩⟩ := xs
  obtain ⟨⟨hk, -⟩, -⟩ := hg
  change List UInt8 at key
  change List UInt8 at val
  change Int at kind txn ts
  change Bool at gone
  have hk := bdu8 hk
  clear hp
  show vfun tab _ k32 Try.f32 [.agg [.i .u8 kind, .s key, .i .i64 txn, .i .i64 ts, .b gone, .s val]] [] _
  refine Ev.out ?_
  repeat' (first | ((with_reducible refine Ev.mk ?_); conv => whnf) | (with_reducible refine And.intro ?_ ?_) | (intro h))
  all_goals (try simp only [decide_eq_true_eq, decide_eq_false_iff_not, beq_iff_eq, bne_iff_ne, beq_eq_false_iff_ne, bne_eq_false_iff_eq, Int.toNat_natCast, ge_iff_le, gt_iff_lt, Bool.not_eq_true', Bool.not_eq_false', Int.not_lt, Int.not_le, ne_eq] at *)
  all_goals (try dsimp only [Ty.den, Ty.dflt, MsgT, sMCheckR, sMCheck, sPutTextR, sPutSmallR, sPutText, sPutSmall] at *)
  all_goals (try simp only [eq4, ne4, eq3, ne3, eq2, ne2, Prod.eta, List.length_cons, List.length_nil, List.length_append, Nat.zero_add] at *)
  all_goals (try simp (disch := omega) only [wrap64] at *)
  all_goals try first | exact leafDraw (by kernel_rfl) | exact Leaf.mk trivial | (refine Leaf.mk ?_; omega) | (refine Leaf.mk ?_; unfold maxLen; omega)
  all_goals try simp only [decide_eq_true_eq, decide_eq_false_iff_not] at *
  all_goals try exact Leaf.mk (retB (u := ([], mcheck (kind, key, txn, ts, gone, val))) (if_neg h).symm)
  all_goals
    have ok := mcheck_ok ‹mcheck (kind, key, txn, ts, gone, val) = 0›
    have hk1 := ok.key
    have hv1 := ok.val
    have hk2 := ok.kind
    have ht1 := ok.txn
    have ht2 := ok.ts
    dsimp only at hk1 hv1 hk2 ht1 ht2
    try rw [wrapu ht1] at *
    try rw [wrapu ht2] at *
    have hl1 := putText_len key
    have hl2 := putSmall_len txn
    have hl3 := putSmall_len ts
    have hl4 := putText_len val
  all_goals try first
    | (refine Leaf.mk ?_; omega)
    | (refine Leaf.mk ?_; unfold maxLen; omega)
    | exact Leaf.mk (show key.length ≤ 100000 by omega)
    | exact Leaf.mk (show val.length ≤ 100000 by omega)
  all_goals
    refine Leaf.mk (retB (u := (_, 0)) (v := putR12 (kind, key, txn, ts, gone, val)) ?_)
    rw [putR12, if_pos ‹mcheck (kind, key, txn, ts, gone, val) = 0›]
    rcases (by omega : kind = 0 ∨ kind = 1 ∨ kind = 2 ∨ kind = 3) with rfl | rfl | rfl | rfl
  all_goals first
    | (exfalso; omega)
    | (simp [putM, gvB, *]; done)
    | (simp_all [putM, gvB]; done)
def sMSize : PSpec := ⟨[.d MsgT], [⟨false, [.d (.int .i64)]⟩], fun _ => True, fun x => (((List.length (putR12 x.1).1 : Nat), ()), ())⟩
theorem fMSize : FnOk Try.prog 35 := ⟨_, Try.func35, by decide, rfl⟩
theorem pMSize : PSound Try.prog 35 sMSize := by
  refine psound (T := tab) (S := (spOf [(31, sMPut.spec (lsOf []))])) (keep := k35) (by kernel_rfl) tabOk (spCons (pOk pMPut fMPut (by decide) lsNil) spNil) (by kernel_rfl) Try.func35 (by kernel_rfl) (by decide) fun xs hg hp => ?_
  obtain ⟨⟨kind, key, txn, ts, gone, val⟩, ⟨⟩⟩ := xs
  obtain ⟨⟨hk, -⟩, -⟩ := hg
  change List UInt8 at key
  change List UInt8 at val
  change Int at kind txn ts
  change Bool at gone
  have hk := bdu8 hk
  clear hp
  show vfun tab _ k35 Try.f35 [.agg [.i .u8 kind, .s key, .i .i64 txn, .i .i64 ts, .b gone, .s val]] [] _
  refine Ev.out ?_
  repeat' (first | ((with_reducible refine Ev.mk ?_); conv => whnf) | (with_reducible refine And.intro ?_ ?_) | (intro h))
  all_goals first | exact Leaf.mk trivial | exact Leaf.mk rfl
end Go.Proofs.Ytoedpnniaikfbaa
