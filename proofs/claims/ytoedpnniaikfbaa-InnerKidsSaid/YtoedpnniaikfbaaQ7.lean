import Derived.Test.YtoedpnniaikfbaaQ6
import Derived.Test.YtoedpnniaikfbaaTab
import Derived.Test.YtoedpnniaikfbaaEng4
import Derived.Test.YtoedpnniaikfbaaEng5
import Derived.Shelf.Sort.Plain
import Derived.Test.YtoedpnniaikfbaaProg
/- Texts, one behind the other. -/
set_option linter.unusedVariables false
set_option linter.unusedSimpArgs false
set_option maxRecDepth 8000
set_option maxHeartbeats 4000000
namespace Go.Proofs.Ytoedpnniaikfbaa
open Go.Eng
def wide (m : Msg) : Bool := decide (1 ≤ m.1 ∧ m.1 ≤ 3)
def sWide : PSpec := ⟨[.d MsgT], [⟨false, [.d .bool]⟩], fun _ => True, fun x => ((wide x.1, ()), ())⟩
theorem fWide : FnOk Try.prog 19 := ⟨_, Try.func19, by decide, rfl⟩
theorem pWide : PSound Try.prog 19 sWide := by
  refine psound (T := tab) (S := (spOf [])) (keep := k19) (by kernel_rfl) tabOk spNil (by kernel_rfl) Try.func19 (by kernel_rfl) (by decide) fun xs hg hp => ?_
  obtain ⟨⟨kind, key, txn, ts, gone, val⟩, ⟨⟩⟩ := xs
  obtain ⟨⟨hk, -⟩, -⟩ := hg
  change List UInt8 at key
  change List UInt8 at val
  change Int at kind txn ts
  change Bool at gone
  have hk := bdu8 hk
  show vfun tab _ k19 Try.f19 [.agg [.i .u8 kind, .s key, .i .i64 txn, .i .i64 ts, .b gone, .s val]] [] _
  refine Ev.out ?_
  repeat' (first | ((with_reducible refine Ev.mk ?_); conv => whnf) | (with_reducible refine And.intro ?_ ?_) | (intro h))
  all_goals (try simp only [decide_eq_true_eq, decide_eq_false_iff_not, beq_iff_eq, bne_iff_ne, beq_eq_false_iff_ne, bne_eq_false_iff_eq, Int.toNat_natCast, ge_iff_le, gt_iff_lt, Bool.not_eq_true', Bool.not_eq_false', Int.not_lt, Int.not_le, ne_eq] at *)
  all_goals (try dsimp only [Ty.den, Ty.dflt, MsgT] at *)
  all_goals (try simp only [eq4, ne4, eq3, ne3, eq2, ne2, Prod.eta, List.length_cons, List.length_nil, List.length_append, Nat.zero_add] at *)
  all_goals (try simp (disch := omega) only [wrap64] at *)
  all_goals
    refine Leaf.mk (ret1 (show _ = wide (kind, key, txn, ts, gone, val) from ?_))
    unfold wide
    first
    | (rw [eq_comm, decide_eq_false_iff_not]; omega)
    | (rw [eq_comm, decide_eq_true_eq]; omega)
    | (congr 1; simp only [eq_iff_iff]; omega)
    | (rw [Bool.eq_iff_iff]; simp only [decide_eq_true_eq, beq_iff_eq]; omega)
end Go.Proofs.Ytoedpnniaikfbaa

set_option linter.unusedVariables false
set_option linter.unusedSimpArgs false
set_option maxRecDepth 8000
set_option maxHeartbeats 4000000
namespace Go.Proofs.Ytoedpnniaikfbaa
open Go.Eng
abbrev MsT : Ty := .slice MsgT
end Go.Proofs.Ytoedpnniaikfbaa

set_option linter.unusedVariables false
set_option linter.unusedSimpArgs false
set_option maxRecDepth 8000
set_option maxHeartbeats 4000000
namespace Go.Proofs.Ytoedpnniaikfbaa
open Go.Eng
theorem all_at' {α : Type} {p : α → Bool} {xs : List α} {i : Nat} (d : α) (h : i < xs.length) : (xs.take (i + 1)).all p = ((xs.take i).all p && p (xs.getD i d)) := by
  rw [take_at d h, List.all_append]; simp
theorem all_no' {α : Type} {p : α → Bool} {xs : List α} {i : Nat} (d : α) (h : i < xs.length) (hn : p (xs.getD i d) = false) : xs.all p = false := by
  have : ¬ xs.all p = true := fun hc => by
    rw [List.all_eq_true] at hc
    have := hc _ (getD_mem d h)
    rw [hn] at this; exact absurd this (by simp)
  simpa using this
def lightM1 (m : Msg) : Bool := decide (m.2.1.length ≤ 100 ∧ m.2.2.2.2.2.length ≤ 100)
def lightM (l : List Msg) (most : Int) : Bool := decide ((l.length : Int) ≤ most) && l.all lightM1
def sLightM : PSpec := ⟨[.d MsT, .d (.int .i64)], [⟨false, [.d .bool]⟩], fun _ => True, fun x => ((lightM x.1 x.2.1, ()), ())⟩
theorem fLightM : FnOk Try.prog 14 := ⟨_, Try.func14, by decide, rfl⟩
theorem pLightM : PSound Try.prog 14 sLightM := by
  refine psound (T := tab) (S := (spOf [])) (keep := k14) (by kernel_rfl) tabOk spNil (by kernel_rfl) Try.func14 (by kernel_rfl) (by decide) fun xs hg hp => ?_
  obtain ⟨xs, most, ⟨⟩⟩ := xs
  obtain ⟨⟨hl, hx⟩, -⟩ := hg
  change List Msg at xs
  change Int at most
  change xs.length ≤ _ at hl
  have hl := len63 hl
  clear hp
  show vfun tab _ k14 Try.f14 [.sl MsgT xs, .i .i64 most] [] _
  refine Ev.out ?_
  repeat' (first | ((with_reducible refine Ev.mk ?_); conv => whnf) | (with_reducible refine And.intro ?_ ?_) | (intro h))
  all_goals (try simp only [decide_eq_true_eq, decide_eq_false_iff_not, beq_iff_eq, bne_iff_ne, beq_eq_false_iff_ne, bne_eq_false_iff_eq, Int.toNat_natCast, ge_iff_le, gt_iff_lt, Bool.not_eq_true', Bool.not_eq_false', Int.not_lt, Int.not_le, ne_eq] at *)
  all_goals (try dsimp only [Ty.den, Ty.dflt, MsgT] at *)
  all_goals (try simp only [eq4, ne4, eq3, ne3, eq2, ne2, Prod.eta, List.length_cons, List.length_nil, List.length_append, Nat.zero_add] at *)
  all_goals (try simp (disch := omega) only [wrap64] at *)
  all_goals try first | exact leafDraw (by kernel_rfl) | exact Leaf.mk trivial | (refine Leaf.mk ?_; omega) | (refine Leaf.mk ?_; unfold maxLen; omega)
  · refine Leaf.mk (ret1 (show false = lightM xs most from ?_))
    rw [lightM, decide_eq_false (by omega), Bool.false_and]
  refine LoopVC.on (fun i : Nat => [(5, .i .i64 i)]) (fun _ => []) (fun i => i ≤ xs.length ∧ (xs.take i).all lightM1 = true) (fun i => xs.length - i) 0 rfl ⟨by omega, rfl⟩ ?_
  intro i ⟨hi, he⟩
  repeat' (first | ((with_reducible refine Ev.mk ?_); conv => whnf) | (with_reducible refine And.intro ?_ ?_) | (intro h))
  all_goals (try simp only [decide_eq_true_eq, decide_eq_false_iff_not, beq_iff_eq, bne_iff_ne, beq_eq_false_iff_ne, bne_eq_false_iff_eq, Int.toNat_natCast, ge_iff_le, gt_iff_lt, Bool.not_eq_true', Bool.not_eq_false', Int.not_lt, Int.not_le, ne_eq] at *)
  all_goals (try dsimp only [Ty.den, Ty.dflt, MsgT] at *)
  all_goals (try simp only [eq4, ne4, eq3, ne3, eq2, ne2, Prod.eta, List.length_cons, List.length_nil, List.length_append, Nat.zero_add] at *)
  all_goals (try simp (disch := omega) only [wrap64] at *)
  all_goals try first | exact leafDraw (by kernel_rfl) | exact Leaf.mk trivial | (refine Leaf.mk ?_; omega) | (refine Leaf.mk ?_; unfold maxLen; omega)
  all_goals first
    | (refine Leaf.mk (ret1 (show false = lightM xs most from ?_))
       rw [lightM, all_no' msg0 (by omega) (show lightM1 (xs.getD i msg0) = false from decide_eq_false (fun hc => by have h1 := hc.1; have h2 := hc.2; dsimp only [msg0] at *; omega)), Bool.and_false]
       done)
    | (refine Leaf.mk ⟨i + 1, rfl, ⟨by omega, ?_⟩, by omega⟩
       rw [all_at' msg0 (by omega), he, Bool.true_and]; exact decide_eq_true ⟨by dsimp only [msg0] at *; omega, by dsimp only [msg0] at *; omega⟩)
    | (refine Leaf.mk (ret1 (show true = lightM xs most from ?_))
       rw [List.take_of_length_le (by omega)] at he
       rw [lightM, he, Bool.and_true, decide_eq_true (by omega)]
       done)
set_option synthInstance.maxHeartbeats 400000
instance decM1 : DecidableEq (Bool × List UInt8) := inferInstance
instance decM2 : DecidableEq (Int × Bool × List UInt8) := inferInstance
instance decM3 : DecidableEq (Int × Int × Bool × List UInt8) := inferInstance
instance decM4 : DecidableEq (List UInt8 × Int × Int × Bool × List UInt8) := inferInstance
instance decMsg : DecidableEq Msg := inferInstanceAs (DecidableEq (Int × List UInt8 × Int × Int × Bool × List UInt8))
end Go.Proofs.Ytoedpnniaikfbaa

set_option linter.unusedVariables false
set_option linter.unusedSimpArgs false
set_option maxRecDepth 8000
set_option maxHeartbeats 4000000
namespace Go.Proofs.Ytoedpnniaikfbaa
open Go.Eng
def gvB (g : Bool) (v : List UInt8) : List Int := (if g = true then 1 else 0) :: putText v
def putM (m : Msg) : List Int := m.1 :: ((if m.1 = 0 then putText m.2.1 else []) ++ ((if m.1 = 3 then [] else putSmall m.2.2.1) ++ ((if m.1 = 1 ∨ m.1 = 3 then putSmall m.2.2.2.1 else []) ++ (if m.1 = 0 then gvB m.2.2.2.2.1 m.2.2.2.2.2 else []))))
structure MsgOk (m : Msg) : Prop where
  kind : m.1 ≤ 3
  form : mForm m
  txn : 0 ≤ m.2.2.1 ∧ m.2.2.1 ≤ 1099511627776
  ts : 0 ≤ m.2.2.2.1 ∧ m.2.2.2.1 ≤ 1099511627776
  key : m.2.1.length ≤ 16
  val : m.2.2.2.2.2.length ≤ 24
theorem mcheck_ok {m : Msg} (h : mcheck m = 0) : MsgOk m := by
  unfold mcheck at h
  split at h
  · exact absurd h (by decide)
  split at h
  · exact absurd h (by decide)
  split at h
  · exact absurd h (by decide)
  split at h
  · exact absurd h (by decide)
  rename_i h1 h2 h3 h4
  have h5 : inB m.2.2.1 = true ∧ inB m.2.2.2.1 = true := Classical.byContradiction fun hc => h3 (.inl hc)
  exact ⟨by omega, Classical.byContradiction h2, of_decide_eq_true h5.1, of_decide_eq_true h5.2, by omega, by omega⟩
theorem gvB_len (g : Bool) (v : List UInt8) : (gvB g v).length ≤ 2 * v.length + 3 := by
  have := putText_len v
  rw [gvB, List.length_cons]; omega
theorem putM_len {m : Msg} (h : mcheck m = 0) : (putM m).length ≤ 104 := by
  have ok := mcheck_ok h
  have h1 := putText_len m.2.1
  have h2 := putSmall_len m.2.2.1
  have h3 := putSmall_len m.2.2.2.1
  have h4 := gvB_len m.2.2.2.2.1 m.2.2.2.2.2
  have := ok.key
  have := ok.val
  unfold putM
  simp only [List.length_cons, List.length_append]
  repeat' split
  all_goals (try simp only [List.length_nil]); omega
theorem isB_gv (g : Bool) (v : List UInt8) : isB (gvB g v) := by
  intro x hx
  rcases List.mem_cons.1 hx with h | h
  · rw [h]; split <;> omega
  · exact isB_put _ x h
theorem isB_M {m : Msg} (h0 : 0 ≤ m.1) (h : m.1 ≤ 255) : isB (putM m) := by
  intro x hx
  rcases List.mem_cons.1 hx with hx | hx
  · rw [hx]; omega
  · have hn : isB ([] : List Int) := fun x hx => by simp at hx
    refine (isB_append ?_ (isB_append ?_ (isB_append ?_ ?_))) x hx
    · split; exact isB_put _; exact hn
    · split; exact hn; exact isB_small _
    · split; exact isB_small _; exact hn
    · split; exact isB_gv _ _; exact hn
def putR12 (m : Msg) : List Int × Int := if mcheck m = 0 then (putM m, 0) else ([], mcheck m)
def sMPut : PSpec := ⟨[.d MsgT], [⟨false, [.o 5 (.int .u8)]⟩, ⟨false, [.d (.int .i64)]⟩], fun _ => True, fun x => (((putR12 x.1).1, ()), ((putR12 x.1).2, ()), ())⟩
def sMFlag : PSpec := sFlag
theorem fMFlag : FnOk Try.prog 80 := ⟨_, Try.func80, by decide, rfl⟩
theorem pMFlag : PSound Try.prog 80 sMFlag := by
  refine psound (T := tab) (S := (spOf [])) (keep := k80) (by kernel_rfl) tabOk spNil (by kernel_rfl) Try.func80 (by kernel_rfl) (by decide) fun xs hg hp => ?_
  obtain ⟨g, ⟨⟩⟩ := xs
  change Bool at g
  show vfun tab _ k80 Try.f80 [.b g] [] _
  refine Ev.out ?_
  repeat' (first | ((with_reducible refine Ev.mk ?_); conv => whnf) | (with_reducible refine And.intro ?_ ?_) | (intro h))
  · exact Leaf.mk (ret1 (show (1 : Int) = if g = true then 1 else 0 by rw [if_pos h]))
  · exact Leaf.mk (ret1 (show (0 : Int) = if g = true then 1 else 0 by rw [if_neg (by rw [h]; simp)]))
theorem fMPut : FnOk Try.prog 31 := ⟨_, Try.func31, by decide, rfl⟩
theorem pMPut : PSound Try.prog 31 sMPut := by
  refine psound (T := tab) (S := (spOf [(21, sMCheck.spec (lsOf [])), (68, sOf.spec (lsOf [])), (78, sPutText.spec (lsOf [])), (79, sPutSmall.spec (lsOf [])), (80, sMFlag.spec (lsOf []))])) (keep := k31) (by kernel_rfl) tabOk (spCons (pOk pMCheck fMCheck (by decide) lsNil) (spCons (pOk pOf fOf (by decide) lsNil) (spCons (pOk pPutText fPutText (by decide) lsNil) (spCons (pOk pPutSmall fPutSmall (by decide) lsNil) (spCons (pOk pMFlag fMFlag (by decide) lsNil) spNil))))) (by kernel_rfl) Try.func31 (by kernel_rfl) (by decide) fun xs hg hp => ?_
  obtain ⟨⟨kind, key, txn, ts, gone, val⟩, ⟨⟩⟩ := xs
  obtain ⟨⟨hk, -⟩, -⟩ := hg
  change List UInt8 at key
  change List UInt8 at val
  change Int at kind txn ts
  change Bool at gone
  have hk := bdu8 hk
  clear hp
  show vfun tab _ k31 Try.f31 [.agg [.i .u8 kind, .s key, .i .i64 txn, .i .i64 ts, .b gone, .s val]] [] _
  refine Ev.out ?_
  repeat' (first | ((with_reducible refine Ev.mk ?_); conv => whnf) | (with_reducible refine And.intro ?_ ?_) | (intro h))
  all_goals (try simp only [decide_eq_true_eq, decide_eq_false_iff_not, beq_iff_eq, bne_iff_ne, beq_eq_false_iff_ne, bne_eq_false_iff_eq, Int.toNat_natCast, ge_iff_le, gt_iff_lt, Bool.not_eq_true', Bool.not_eq_false', Int.not_lt, Int.not_le, ne_eq] at *)
  all_goals (try dsimp only [Ty.den, Ty.dflt, MsgT, sMCheck, sOf, ofK, sPutText, sPutSmall, sMFlag, sFlag] at *)
  all_goals (try simp only [eq4, ne4, eq3, ne3, eq2, ne2, Prod.eta, List.length_cons, List.length_nil, List.length_append, Nat.zero_add] at *)
  all_goals (try simp (disch := omega) only [wrap64] at *)
  all_goals try first | exact leafDraw (by kernel_rfl) | exact Leaf.mk trivial | (refine Leaf.mk ?_; omega) | (refine Leaf.mk ?_; unfold maxLen; omega)
  all_goals try simp only [decide_eq_true_eq, decide_eq_false_iff_not] at *
  all_goals try exact Leaf.mk (retB (u := ([], mcheck (kind, key, txn, ts, gone, val))) (if_neg h).symm)
  all_goals
    have ok := mcheck_ok ‹mcheck (kind, key, txn, ts, gone, val) = 0›
    have hk1 := ok.key
    have hv1 := ok.val
    have hk2 := ok.kind
    have ht1 := ok.txn
    have ht2 := ok.ts
    dsimp only at hk1 hv1 hk2 ht1 ht2
    try rw [wrapu ht1] at *
    try rw [wrapu ht2] at *
    have hl1 := putText_len key
    have hl2 := putSmall_len txn
    have hl3 := putSmall_len ts
    have hl4 := putText_len val
  all_goals try first
    | (refine Leaf.mk ?_; omega)
    | (refine Leaf.mk ?_; unfold maxLen; omega)
    | exact Leaf.mk (show key.length ≤ 100000 by omega)
    | exact Leaf.mk (show val.length ≤ 100000 by omega)
  all_goals
    refine Leaf.mk (retB (u := (_, 0)) (v := putR12 (kind, key, txn, ts, gone, val)) ?_)
    rw [putR12, if_pos ‹mcheck (kind, key, txn, ts, gone, val) = 0›]
    rcases (by omega : kind = 0 ∨ kind = 1 ∨ kind = 2 ∨ kind = 3) with rfl | rfl | rfl | rfl
  all_goals first
    | (exfalso; omega)
    | (simp [putM, gvB, *]; done)
    | (simp_all [putM, gvB]; done)
def sMSize : PSpec := ⟨[.d MsgT], [⟨false, [.d (.int .i64)]⟩], fun _ => True, fun x => (((List.length (putR12 x.1).1 : Nat), ()), ())⟩
theorem fMSize : FnOk Try.prog 35 := ⟨_, Try.func35, by decide, rfl⟩
theorem pMSize : PSound Try.prog 35 sMSize := by
  refine psound (T := tab) (S := (spOf [(31, sMPut.spec (lsOf []))])) (keep := k35) (by kernel_rfl) tabOk (spCons (pOk pMPut fMPut (by decide) lsNil) spNil) (by kernel_rfl) Try.func35 (by kernel_rfl) (by decide) fun xs hg hp => ?_
  obtain ⟨⟨kind, key, txn, ts, gone, val⟩, ⟨⟩⟩ := xs
  obtain ⟨⟨hk, -⟩, -⟩ := hg
  change List UInt8 at key
  change List UInt8 at val
  change Int at kind txn ts
  change Bool at gone
  have hk := bdu8 hk
  clear hp
  show vfun tab _ k35 Try.f35 [.agg [.i .u8 kind, .s key, .i .i64 txn, .i .i64 ts, .b gone, .s val]] [] _
  refine Ev.out ?_
  repeat' (first | ((with_reducible refine Ev.mk ?_); conv => whnf) | (with_reducible refine And.intro ?_ ?_) | (intro h))
  all_goals first | exact Leaf.mk trivial | exact Leaf.mk rfl
end Go.Proofs.Ytoedpnniaikfbaa

set_option linter.unusedVariables false
set_option linter.unusedSimpArgs false
set_option maxRecDepth 8000
set_option maxHeartbeats 4000000
namespace Go.Proofs.Ytoedpnniaikfbaa
open Go.Eng
abbrev TsT : Ty := .slice .str
abbrev BfT : Ty := .slice (.slice MsgT)
abbrev InT : Ty := .pair TsT (.pair (.slice (.int .i64)) BfT)
abbrev Inn : Type := List (List UInt8) × List Int × List (List Msg)
abbrev inn0 : Inn := ([], [], [])
def wholeI (n : Inn) : Bool := decide (n.2.2.length = n.2.1.length ∧ n.1.length + 1 = n.2.1.length)
theorem wholeI_iff {n : Inn} : wholeI n = true ↔ n.2.2.length = n.2.1.length ∧ n.1.length + 1 = n.2.1.length := decide_eq_true_iff
def sWhole : PSpec := ⟨[.d InT], [⟨false, [.d .bool]⟩], fun _ => True, fun x => ((wholeI x.1, ()), ())⟩
def sWholeR : PSpec := sWhole
theorem fWhole : FnOk Try.prog 101 := ⟨_, Try.func101, by decide, rfl⟩
theorem pWhole : PSound Try.prog 101 sWhole := by
  refine psound (T := tab) (S := (spOf [])) (keep := k101) (by kernel_rfl) tabOk spNil (by kernel_rfl) Try.func101 (by kernel_rfl) (by decide) fun xs hg hp => ?_
  obtain ⟨⟨ps, ks, bs⟩, ⟨⟩⟩ := xs
  obtain ⟨⟨⟨hlp, -⟩, ⟨hlk, -⟩, ⟨hlb, -⟩⟩, -⟩ := hg
  change List (List UInt8) at ps
  change List Int at ks
  change List (List Msg) at bs
  have hlp := len63 hlp
  have hlk := len63 hlk
  have hlb := len63 hlb
  clear hp
  show vfun tab _ k101 Try.f101 [.agg [.sl .str ps, .sl (.int .i64) ks, .sl (.slice MsgT) bs]] [] _
  refine Ev.out ?_
  repeat' (first | ((with_reducible refine Ev.mk ?_); conv => whnf) | (with_reducible refine And.intro ?_ ?_) | (intro h))
  all_goals (try simp only [decide_eq_true_eq, decide_eq_false_iff_not, beq_iff_eq, bne_iff_ne, beq_eq_false_iff_ne, bne_eq_false_iff_eq, Int.toNat_natCast, ge_iff_le, gt_iff_lt, Bool.not_eq_true', Bool.not_eq_false', Int.not_lt, Int.not_le, ne_eq] at *)
  all_goals (try dsimp only [Ty.den, Ty.dflt, InT] at *)
  all_goals (try simp only [eq4, ne4, eq3, ne3, eq2, ne2, Prod.eta, List.length_cons, List.length_nil, List.length_append, Nat.zero_add] at *)
  all_goals (try simp (disch := omega) only [wrap64] at *)
  all_goals try first | exact leafDraw (by kernel_rfl) | exact Leaf.mk trivial | (refine Leaf.mk ?_; omega) | (refine Leaf.mk ?_; unfold maxLen; omega)
  all_goals first
    | (refine Leaf.mk (ret1 (show _ = wholeI (ps, ks, bs) from ?_)); simp only [wholeI]; first | rfl | (apply Bool.eq_iff_iff.2; simp; omega))
    | skip
def atP (k p : List UInt8) : Bool := sless p k || p == k
def routeI (ps : List (List UInt8)) (k : List UInt8) : Nat := (ps.filter (atP k)).length
theorem routeI_at {ps : List (List UInt8)} {i : Nat} {k : List UInt8} (h : i < ps.length) : routeI (ps.take (i + 1)) k = routeI (ps.take i) k + (if atP k (ps.getD i []) = true then 1 else 0) := by
  rw [routeI, filter_at [] h, List.length_append, routeI]
  split <;> rfl
theorem routeI_le (ps : List (List UInt8)) (k : List UInt8) : routeI ps k ≤ ps.length := List.length_filter_le _ _
def sRoute : PSpec := ⟨[.d InT, .d .str], [⟨false, [.d (.int .i64)]⟩], fun _ => True, fun x => (((routeI x.1.1 x.2.1 : Nat), ()), ())⟩
theorem fRoute : FnOk Try.prog 53 := ⟨_, Try.func53, by decide, rfl⟩
theorem pRoute : PSound Try.prog 53 sRoute := by
  refine psound (T := tab) (S := (spOf [])) (keep := k53) (by kernel_rfl) tabOk spNil (by kernel_rfl) Try.func53 (by kernel_rfl) (by decide) fun xs hg hp => ?_
  obtain ⟨⟨ps, ks, bs⟩, key, ⟨⟩⟩ := xs
  obtain ⟨⟨⟨hlp, -⟩, ⟨hlk, -⟩, ⟨hlb, -⟩⟩, -⟩ := hg
  change List (List UInt8) at ps
  change List Int at ks
  change List (List Msg) at bs
  change List UInt8 at key
  have hlp := len63 hlp
  clear hlk hlb hp
  show vfun tab _ k53 Try.f53 [.agg [.sl .str ps, .sl (.int .i64) ks, .sl (.slice MsgT) bs], .s key] [] _
  refine Ev.out ?_
  repeat' (first | ((with_reducible refine Ev.mk ?_); conv => whnf) | (with_reducible refine And.intro ?_ ?_) | (intro h))
  refine LoopVC.on (fun i : Nat => [(5, .i .i64 (routeI (ps.take i) key : Nat)), (11, .i .i64 i)]) (fun _ => []) (fun i => i ≤ ps.length) (fun i => ps.length - i) 0 rfl (by omega) ?_
  intro i hi
  have hat := fun h => routeI_at (ps := ps) (i := i) (k := key) h
  have hle := routeI_le (ps.take i) key
  rw [List.length_take] at hle
  repeat' (first | ((with_reducible refine Ev.mk ?_); conv => whnf) | (with_reducible refine And.intro ?_ ?_) | (intro h))
  all_goals (try simp only [decide_eq_true_eq, decide_eq_false_iff_not, beq_iff_eq, bne_iff_ne, beq_eq_false_iff_ne, bne_eq_false_iff_eq, Int.toNat_natCast, ge_iff_le, gt_iff_lt, Bool.not_eq_true', Bool.not_eq_false', Int.not_lt, Int.not_le, ne_eq] at *)
  all_goals (try dsimp only [Ty.den, Ty.dflt, InT] at *)
  all_goals (try simp only [eq4, ne4, eq3, ne3, eq2, ne2, Prod.eta, List.length_cons, List.length_nil, List.length_append, Nat.zero_add] at *)
  all_goals (try simp (disch := omega) only [wrap64] at *)
  all_goals try first | exact leafDraw (by kernel_rfl) | exact Leaf.mk trivial | (refine Leaf.mk ?_; omega) | (refine Leaf.mk ?_; unfold maxLen; omega)
  · refine Leaf.mk (Exists.intro (i + 1) ⟨?_, by omega, by omega⟩)
    rw [hat (by omega), if_pos (show atP key (ps.getD i []) = true from ‹_›)]; rfl
  · refine Leaf.mk (Exists.intro (i + 1) ⟨?_, by omega, by omega⟩)
    rw [hat (by omega), if_neg (by rw [show atP key (ps.getD i []) = false from ‹_›]; simp)]; rfl
  · refine Leaf.mk (ret1 (show ((routeI (ps.take i) key : Nat) : Int) = (routeI ps key : Nat) from ?_))
    rw [List.take_of_length_le (by omega)]
end Go.Proofs.Ytoedpnniaikfbaa

set_option linter.unusedVariables false
set_option linter.unusedSimpArgs false
set_option maxRecDepth 8000
set_option maxHeartbeats 4000000
namespace Go.Proofs.Ytoedpnniaikfbaa
open Go.Eng
def max0 (k : Int) : Int := if k > 0 then k else 0
theorem max0_nn (k : Int) : 0 ≤ max0 k := by unfold max0; split <;> omega
theorem wrap64u {n : Int} (h0 : 0 ≤ n) (h1 : n ≤ 18446744073709551615) : IntKind.u64.wrap n = n := by
  unfold IntKind.wrap; simp [IntKind.signed, IntKind.bits]; omega
def pm (m : Msg) : List Int := (putR12 m).1
theorem pm_len (m : Msg) : (pm m).length ≤ 104 := by
  rw [pm, putR12]; split
  · rename_i h; exact putM_len h
  · simp
def kb (k : Int) (b : List Msg) : List Int := putSmall (max0 k) ++ (putSmall (b.length : Nat) ++ b.flatMap pm)
def kbs (n : Inn) (i : Nat) : List Int := (List.range i).flatMap fun j => kb (n.2.1.getD j 0) (n.2.2.getD j [])
theorem kbs_at (n : Inn) (i : Nat) : kbs n (i + 1) = kbs n i ++ kb (n.2.1.getD i 0) (n.2.2.getD i []) := by
  rw [kbs, List.range_succ, List.flatMap_append]; simp [kbs]
def layI (n : Inn) : List Int := putSmall (n.2.1.length : Nat) ++ n.1.flatMap putText ++ kbs n n.2.1.length
theorem flat_at2 {α β : Type} {f : α → List β} {l : List α} {i : Nat} (d : α) (h : i < l.length) : (l.take (i + 1)).flatMap f = (l.take i).flatMap f ++ f (l.getD i d) := by
  rw [take_at d h, List.flatMap_append]; simp
theorem flat_len2 {α β : Type} {f : α → List β} {m : Nat} : ∀ {l : List α}, (∀ x ∈ l, (f x).length ≤ m) → (l.flatMap f).length ≤ l.length * m
  | [], _ => by simp
  | x :: l, h => by
    rw [List.flatMap_cons, List.length_append, List.length_cons, Nat.add_mul]
    have := flat_len2 (l := l) fun y hy => h y (List.mem_cons_of_mem _ hy)
    have := h x List.mem_cons_self
    omega
theorem pms_len (b : List Msg) : (b.flatMap pm).length ≤ b.length * 104 := flat_len2 fun m _ => pm_len m
structure IPre (n : Inn) : Prop where
  p : n.1.length ≤ 20
  pt : ∀ p ∈ n.1, p.length ≤ 1000
  k : n.2.1.length ≤ 20
  b : n.2.2.length ≤ 20
  m : n.2.2.flatten.length ≤ 5000
theorem kbs_len (n : Inn) : ∀ i, i ≤ n.2.2.length → (kbs n i).length ≤ i * 18 + ((n.2.2.take i).flatten.length) * 104
  | 0, _ => by simp [kbs]
  | i + 1, h => by
    have ih := kbs_len n i (by omega)
    have h1 := putSmall_len (max0 (n.2.1.getD i 0))
    have h2 := putSmall_len ((n.2.2.getD i []).length : Nat)
    have h3 := pms_len (n.2.2.getD i [])
    rw [kbs_at, List.length_append, kb, List.length_append, List.length_append, flat_at (by omega), List.length_append]
    omega
theorem IPre.tl {n : Inn} (h : IPre n) (i : Nat) : ((n.1.take i).flatMap putText).length ≤ 20 * 2002 := by
  have h1 := flat_len2 (f := putText) (m := 2002) (l := n.1.take i) fun x hx => by
    have := putText_len x
    have := h.pt x (List.mem_of_mem_take hx)
    omega
  have h2 := h.p
  rw [List.length_take] at h1
  have : min i n.1.length * 2002 ≤ 20 * 2002 := Nat.mul_le_mul_right _ (by omega)
  omega
theorem IPre.kl {n : Inn} (h : IPre n) {i : Nat} (hi : i ≤ n.2.2.length) : (kbs n i).length ≤ 360 + 5000 * 104 := by
  have h1 := kbs_len n i hi
  have h2 := h.m
  have h3 := flat_le (xs := n.2.2) i
  have h4 := h.b
  have : (n.2.2.take i).flatten.length * 104 ≤ 5000 * 104 := Nat.mul_le_mul_right _ (by omega)
  omega
theorem IPre.bl {n : Inn} (h : IPre n) (i : Nat) : (n.2.2.getD i []).length ≤ 5000 := by
  by_cases hi : i < n.2.2.length
  · have h1 := flat_get (xs := n.2.2) hi
    have := h.m
    omega
  · rw [show n.2.2.getD i [] = [] from by simp [List.getD_eq_getElem?_getD, List.getElem?_eq_none (show n.2.2.length ≤ i by omega)]]; simp
theorem wrapMax {ks : List Int} (h : ∀ x ∈ ks, Eng.Good (.int .i64) x) (j : Nat) {inst : Decidable (ks.getD j 0 < 0)} : IntKind.u64.wrap (@ite _ (ks.getD j 0 < 0) inst 0 (ks.getD j 0)) = max0 (ks.getD j 0) := by
  have hb : -9223372036854775808 ≤ ks.getD j 0 ∧ ks.getD j 0 ≤ 9223372036854775807 := by
    by_cases hj : j < ks.length
    · exact bd64 (h _ (getD_mem (xs := ks) 0 hj))
    · rw [show ks.getD j 0 = 0 from by simp [List.getD_eq_getElem?_getD, List.getElem?_eq_none (show ks.length ≤ j by omega)]]; omega
  rw [show (@ite _ (ks.getD j 0 < 0) inst 0 (ks.getD j 0)) = max0 (ks.getD j 0) from by unfold max0; split <;> split <;> omega]
  have h0 := max0_nn (ks.getD j 0)
  have h1 : max0 (ks.getD j 0) ≤ 9223372036854775807 := by unfold max0; split <;> omega
  exact wrap64u h0 (by omega)
def sConcatO : PSpec := ⟨[.d (.slice BT)], [⟨false, [.o 5 (.int .u8)]⟩], fun x => List.length x.1 ≤ 1000 ∧ List.length (List.flatten (α := Int) x.1) ≤ 1000000, fun x => ((List.flatten (α := Int) x.1, ()), ())⟩
theorem fConcatO : FnOk Try.prog 151 := ⟨_, Try.func151, by decide, rfl⟩
theorem pConcatO : PSound Try.prog 151 sConcatO := by
  refine psound (T := tab) (S := (spOf [(173, iGrowB)])) (keep := k151) (by kernel_rfl) tabOk (spCons (.inl ⟨pGrowB, fGrowB⟩) spNil) (by kernel_rfl) Try.func151 (by kernel_rfl) (by decide) fun xs hg hp => ?_
  obtain ⟨xs, ⟨⟩⟩ := xs
  change List (List Int) at xs
  change xs.length ≤ 1000 ∧ xs.flatten.length ≤ 1000000 at hp
  obtain ⟨hp, hf⟩ := hp
  show vfun tab _ k151 Try.f151 [.sl BT xs] [] _
  refine Ev.out ?_
  repeat' (first | ((with_reducible refine Ev.mk ?_); conv => whnf) | (with_reducible refine And.intro ?_ ?_) | (intro h))
  refine LoopVC.on (fun i : Nat => [(11, .i .i64 i), (3, .i .i64 ((xs.take i).flatten.length : Nat))]) (fun _ => []) (fun i => i ≤ xs.length) (fun i => xs.length - i) 0 rfl (by omega) ?_
  intro i hi
  have hle := flat_le (xs := xs) i
  have hge := fun h => flat_get (xs := xs) (i := i) h
  repeat' (first | ((with_reducible refine Ev.mk ?_); conv => whnf) | (with_reducible refine And.intro ?_ ?_) | (intro h))
  all_goals (try simp only [decide_eq_true_eq, decide_eq_false_iff_not, beq_iff_eq, bne_iff_ne, beq_eq_false_iff_ne, bne_eq_false_iff_eq, Int.toNat_natCast, ge_iff_le, gt_iff_lt, Bool.not_eq_true', Bool.not_eq_false', Int.not_lt, Int.not_le, ne_eq] at *)
  all_goals (try dsimp only [Ty.den, Ty.dflt, BT] at *)
  all_goals (try simp only [eq4, ne4, eq3, ne3, eq2, ne2, Prod.eta, List.length_cons, List.length_nil, List.length_append, Nat.zero_add] at *)
  all_goals (try simp (disch := omega) only [wrap64] at *)
  all_goals try first | exact leafDraw (by kernel_rfl) | exact Leaf.mk trivial | (refine Leaf.mk ?_; omega) | (refine Leaf.mk ?_; unfold maxLen; omega)
  · omega
  · refine Leaf.mk ⟨i + 1, ?_, by omega, by omega⟩
    rw [flat_at (by omega), List.length_append]; simp only [Int.natCast_add]; rfl
  · omega
  · refine LoopVC.on (fun j : Nat => [(27, .i .i64 j)]) (fun j => [(0, .arr 5 (.int .u8) (xs.take j).flatten)]) (fun j => j ≤ xs.length) (fun j => xs.length - j) 0 rfl (by omega) ?_
    intro j hj
    have hle := flat_le (xs := xs) j
    have hge := fun h => flat_get (xs := xs) (i := j) h
    repeat' (first | ((with_reducible refine Ev.mk ?_); conv => whnf) | (with_reducible refine And.intro ?_ ?_) | (intro h))
    all_goals (try simp only [decide_eq_true_eq, decide_eq_false_iff_not, beq_iff_eq, bne_iff_ne, beq_eq_false_iff_ne, bne_eq_false_iff_eq, Int.toNat_natCast, ge_iff_le, gt_iff_lt, Bool.not_eq_true', Bool.not_eq_false', Int.not_lt, Int.not_le, ne_eq] at *)
    all_goals (try dsimp only [Ty.den, Ty.dflt, BT] at *)
    all_goals (try simp only [eq4, ne4, eq3, ne3, eq2, ne2, Prod.eta, List.length_cons, List.length_nil, List.length_append, Nat.zero_add] at *)
    all_goals (try simp (disch := omega) only [wrap64] at *)
    all_goals try first | exact leafDraw (by kernel_rfl) | exact Leaf.mk trivial | (refine Leaf.mk ?_; omega) | (refine Leaf.mk ?_; unfold maxLen; omega)
    · refine Leaf.mk ⟨j + 1, ?_, by omega, by omega⟩
      rw [flat_at (by omega)]; rfl
    · rw [List.take_of_length_le (by omega)]; exact Leaf.mk (ret1 rfl)
  · refine LoopVC.weak [(.slot 6, .nil 5 (.int .u8))] (fun j : Nat => [(27, .i .i64 j)]) (fun j => [(0, .arr 5 (.int .u8) (xs.take j).flatten)]) (fun j => j ≤ xs.length) (fun j => xs.length - j) 0 (Ev.mk ?_)
    (conv => whnf)
    refine ⟨Leaf.mk rfl, Leaf.mk ?_, ?_⟩
    · omega
    intro j hj
    have hle := flat_le (xs := xs) j
    have hge := fun h => flat_get (xs := xs) (i := j) h
    repeat' (first | ((with_reducible refine Ev.mk ?_); conv => whnf) | (with_reducible refine And.intro ?_ ?_) | (intro h))
    all_goals (try simp only [decide_eq_true_eq, decide_eq_false_iff_not, beq_iff_eq, bne_iff_ne, beq_eq_false_iff_ne, bne_eq_false_iff_eq, Int.toNat_natCast, ge_iff_le, gt_iff_lt, Bool.not_eq_true', Bool.not_eq_false', Int.not_lt, Int.not_le, ne_eq] at *)
    all_goals (try dsimp only [Ty.den, Ty.dflt, BT] at *)
    all_goals (try simp only [eq4, ne4, eq3, ne3, eq2, ne2, Prod.eta, List.length_cons, List.length_nil, List.length_append, Nat.zero_add] at *)
    all_goals (try simp (disch := omega) only [wrap64] at *)
    all_goals try first | exact leafDraw (by kernel_rfl) | exact Leaf.mk trivial | (refine Leaf.mk ?_; omega) | (refine Leaf.mk ?_; unfold maxLen; omega)
    · refine Leaf.mk ⟨j + 1, ?_, by omega, by omega⟩
      rw [flat_at (by omega)]; rfl
    · rw [List.take_of_length_le (by omega)]; exact Leaf.mk (ret1 rfl)
theorem catO (a b c : List Int) : (sConcatO.fn ([a, b, c], ())).1.1 = a ++ (b ++ c) := by
  show List.flatten [a, b, c] = _
  simp
def sLayI : PSpec := ⟨[.d InT], [⟨false, [.o 5 (.int .u8)]⟩], fun x => IPre x.1 ∧ wholeI x.1 = true, fun x => ((layI x.1, ()), ())⟩
def sLayIR : PSpec := sLayI
theorem fLayI : FnOk Try.prog 112 := ⟨_, Try.func112, by decide, rfl⟩
theorem pLayI : PSound Try.prog 112 sLayI := by
  refine psound (T := tab) (S := (spOf [(79, sPutSmall.spec (lsOf [])), (78, sPutText.spec (lsOf [])), (151, sConcatO.spec (lsOf [])), (31, sMPut.spec (lsOf []))])) (keep := k112) (by kernel_rfl) tabOk (spCons (pOk pPutSmall fPutSmall (by decide) lsNil) (spCons (pOk pPutText fPutText (by decide) lsNil) (spCons (pOk pConcatO fConcatO (by decide) lsNil) (spCons (pOk pMPut fMPut (by decide) lsNil) spNil)))) (by kernel_rfl) Try.func112 (by kernel_rfl) (by decide) fun xs hg hp => ?_
  obtain ⟨⟨ps, ks, bs⟩, ⟨⟩⟩ := xs
  obtain ⟨⟨⟨-, -⟩, ⟨-, hgk⟩, ⟨-, -⟩⟩, -⟩ := hg
  change List (List UInt8) at ps
  change List Int at ks
  change List (List Msg) at bs
  change ∀ x ∈ ks, Eng.Good (.int .i64) x at hgk
  obtain ⟨hp, hw⟩ := hp
  change IPre (ps, ks, bs) at hp
  obtain ⟨hw1, hw2⟩ := wholeI_iff.1 hw
  change bs.length = ks.length at hw1
  change ps.length + 1 = ks.length at hw2
  have hP := hp.p
  have hK := hp.k
  have hB := hp.b
  have hT := hp.tl
  have hKl := fun i h => hp.kl (i := i) h
  have hBl := hp.bl
  have hpt := fun i (h : i < ps.length) => hp.pt _ (getD_mem (xs := ps) [] h)
  dsimp only at hP hK hB hT hKl hBl
  clear hp hw
  show vfun tab _ k112 Try.f112 [.agg [.sl .str ps, .sl (.int .i64) ks, .sl (.slice MsgT) bs]] [] _
  refine Ev.out ?_
  repeat' (first | ((with_reducible refine Ev.mk ?_); conv => whnf) | (with_reducible refine And.intro ?_ ?_) | (intro h))
  all_goals (try simp only [decide_eq_true_eq, decide_eq_false_iff_not, beq_iff_eq, bne_iff_ne, beq_eq_false_iff_ne, bne_eq_false_iff_eq, Int.toNat_natCast, ge_iff_le, gt_iff_lt, Bool.not_eq_true', Bool.not_eq_false', Int.not_lt, Int.not_le, ne_eq] at *)
  all_goals (try dsimp only [Ty.den, Ty.dflt, InT, sPutSmall] at *)
  all_goals (try simp only [eq4, ne4, eq3, ne3, eq2, ne2, Prod.eta, List.length_cons, List.length_nil, List.length_append, Nat.zero_add] at *)
  all_goals (try simp (disch := omega) only [wrap64] at *)
  all_goals try first | exact leafDraw (by kernel_rfl) | exact Leaf.mk trivial | (refine Leaf.mk ?_; omega) | (refine Leaf.mk ?_; unfold maxLen; omega)
  rw [wrap64u (n := (ks.length : Nat)) (by omega) (by omega)]
  refine LoopVC.on (fun i : Nat => [(20, .i .i64 i)]) (fun i => [(1, .arr 5 (.int .u8) (putSmall (ks.length : Nat) ++ (ps.take i).flatMap putText))]) (fun i => i ≤ ps.length) (fun i => ps.length - i) 0 ?_ (by omega) ?_
  · rw [List.take_zero, List.flatMap_nil, List.append_nil]; rfl
  intro i hi
  have hti := hT i
  have hs0 := putSmall_len (ks.length : Nat)
  repeat' (first | ((with_reducible refine Ev.mk ?_); conv => whnf) | (with_reducible refine And.intro ?_ ?_) | (intro h))
  all_goals (try simp only [decide_eq_true_eq, decide_eq_false_iff_not, beq_iff_eq, bne_iff_ne, beq_eq_false_iff_ne, bne_eq_false_iff_eq, Int.toNat_natCast, ge_iff_le, gt_iff_lt, Bool.not_eq_true', Bool.not_eq_false', Int.not_lt, Int.not_le, ne_eq] at *)
  all_goals (try dsimp only [Ty.den, Ty.dflt, InT, sPutSmall, sPutText] at *)
  all_goals (try simp only [eq4, ne4, eq3, ne3, eq2, ne2, Prod.eta, List.length_cons, List.length_nil, List.length_append, Nat.zero_add] at *)
  all_goals (try simp (disch := omega) only [wrap64] at *)
  all_goals try first | exact leafDraw (by kernel_rfl) | exact Leaf.mk trivial | (refine Leaf.mk ?_; omega) | (refine Leaf.mk ?_; unfold maxLen; omega)
  all_goals try
    have hx := hpt i (by omega)
    have hx2 := putText_len (ps.getD i [])
  all_goals first
    | (refine Leaf.mk ?_; omega)
    | (refine Leaf.mk ?_; unfold maxLen; omega)
    | (refine Leaf.mk (Exists.intro (i + 1) ⟨?_, by omega, by omega⟩)
       rw [flat_at2 [] (by omega), ← List.append_assoc]; rfl)
    | skip
  refine LoopVC.on (fun i : Nat => [(32, .i .i64 i)]) (fun i => [(1, .arr 5 (.int .u8) (putSmall (ks.length : Nat) ++ ps.flatMap putText ++ kbs (ps, ks, bs) i))]) (fun i => i ≤ ks.length) (fun i => ks.length - i) 0 ?_ (by omega) ?_
  · rw [List.take_of_length_le (by omega)]; simp only [kbs, List.range_zero, List.flatMap_nil, List.append_nil]; rfl
  clear hpt
  intro j hj
  have hat := kbs_at (ps, ks, bs) j
  have hkj := hKl j (by omega)
  have hbj := hBl j
  have htl := hT ps.length
  rw [List.take_length] at htl
  repeat' (first | ((with_reducible refine Ev.mk ?_); conv => whnf) | (with_reducible refine And.intro ?_ ?_) | (intro h))
  all_goals (try simp only [decide_eq_true_eq, decide_eq_false_iff_not, beq_iff_eq, bne_iff_ne, beq_eq_false_iff_ne, bne_eq_false_iff_eq, Int.toNat_natCast, ge_iff_le, gt_iff_lt, Bool.not_eq_true', Bool.not_eq_false', Int.not_lt, Int.not_le, ne_eq] at *)
  all_goals (try dsimp only [Ty.den, Ty.dflt, InT, sPutSmall, sPutText] at *)
  all_goals (try simp only [eq4, ne4, eq3, ne3, eq2, ne2, Prod.eta, List.length_cons, List.length_nil, List.length_append, Nat.zero_add] at *)
  all_goals (try simp (disch := omega) only [wrap64] at *)
  all_goals try first | exact leafDraw (by kernel_rfl) | exact Leaf.mk trivial | (refine Leaf.mk ?_; omega) | (refine Leaf.mk ?_; unfold maxLen; omega)
  all_goals try simp only [wrap64u (n := ((bs.getD j []).length : Nat)) (by omega) (by omega)] at *
  all_goals try erw [wrapMax hgk j]
  · refine Leaf.mk (show _ ∧ _ from ⟨(show 3 ≤ 1000 by decide), ?_⟩)
    simp only [List.flatten_cons, List.flatten_nil, List.length_append, List.length_nil]
    have h1 := putSmall_len (max0 (ks.getD j 0))
    have h2 := putSmall_len ((bs.getD j []).length : Nat)
    omega
  · refine LoopVC.on (fun i : Nat => [(58, .i .i64 i)]) (fun i => [(1, .arr 5 (.int .u8) (putSmall (ks.length : Nat) ++ ps.flatMap putText ++ kbs (ps, ks, bs) j ++ (putSmall (max0 (ks.getD j 0)) ++ (putSmall ((bs.getD j []).length : Nat) ++ ((bs.getD j []).take i).flatMap pm))))]) (fun i => i ≤ (bs.getD j []).length) (fun i => (bs.getD j []).length - i) 0 ?_ (by omega) ?_
    · rw [List.take_zero, List.flatMap_nil, List.append_nil, catO]; rfl
    intro q hq
    have h1 := putSmall_len (max0 (ks.getD j 0))
    have h2 := putSmall_len ((bs.getD j []).length : Nat)
    have h3 := pms_len ((bs.getD j []).take q)
    have h4 : (putR12 ((bs.getD j []).getD q (0, [], 0, 0, false, []))).1.length ≤ 104 := pm_len ((bs.getD j []).getD q msg0)
    rw [List.length_take] at h3
    repeat' (first | ((with_reducible refine Ev.mk ?_); conv => whnf) | (with_reducible refine And.intro ?_ ?_) | (intro h))
    all_goals (try simp only [decide_eq_true_eq, decide_eq_false_iff_not, beq_iff_eq, bne_iff_ne, beq_eq_false_iff_ne, bne_eq_false_iff_eq, Int.toNat_natCast, ge_iff_le, gt_iff_lt, Bool.not_eq_true', Bool.not_eq_false', Int.not_lt, Int.not_le, ne_eq] at *)
    all_goals (try dsimp only [Ty.den, Ty.dflt, InT, sPutSmall, sPutText, sMPut] at *)
    all_goals (try simp only [eq4, ne4, eq3, ne3, eq2, ne2, Prod.eta, List.length_cons, List.length_nil, List.length_append, Nat.zero_add] at *)
    all_goals (try simp (disch := omega) only [wrap64] at *)
    all_goals try first | exact leafDraw (by kernel_rfl) | exact Leaf.mk trivial | (refine Leaf.mk ?_; omega) | (refine Leaf.mk ?_; unfold maxLen; omega)
    all_goals first
      | (refine Leaf.mk ?_; omega)
      | (refine Leaf.mk ?_; unfold maxLen; omega)
      | (refine Leaf.mk (Exists.intro (q + 1) ⟨?_, by omega, by omega⟩)
         rw [flat_at2 msg0 (by omega)]; simp only [List.append_assoc]; rfl)
      | (refine Leaf.mk (Exists.intro (j + 1) ⟨?_, by omega, by omega⟩)
         rw [hat, kb, List.take_of_length_le (by omega)]; simp only [List.append_assoc]; rfl)
      | skip
  · refine Leaf.mk (ret1 (show putSmall (ks.length : Nat) ++ ps.flatMap putText ++ kbs (ps, ks, bs) j = layI (ps, ks, bs) from ?_))
    rw [layI, show j = ks.length by omega]
end Go.Proofs.Ytoedpnniaikfbaa

set_option linter.unusedVariables false
set_option linter.unusedSimpArgs false
set_option maxRecDepth 8000
set_option maxHeartbeats 4000000
namespace Go.Proofs.Ytoedpnniaikfbaa
open Go.Eng
def sizeI (n : Inn) : Nat := if wholeI n = true then (layI n).length else 0
def sISize : PSpec := ⟨[.d InT], [⟨false, [.d (.int .i64)]⟩], fun x => IPre x.1, fun x => (((sizeI x.1 : Nat), ()), ())⟩
theorem fISize : FnOk Try.prog 55 := ⟨_, Try.func55, by decide, rfl⟩
theorem pISize : PSound Try.prog 55 sISize := by
  refine psound (T := tab) (S := (spOf [(101, sWhole.spec (lsOf [])), (112, sLayI.spec (lsOf []))])) (keep := k55) (by kernel_rfl) tabOk (spCons (pOk pWhole fWhole (by decide) lsNil) (spCons (pOk pLayI fLayI (by decide) lsNil) spNil)) (by kernel_rfl) Try.func55 (by kernel_rfl) (by decide) fun xs hg hp => ?_
  obtain ⟨⟨ps, ks, bs⟩, ⟨⟩⟩ := xs
  clear hg
  change List (List UInt8) at ps
  change List Int at ks
  change List (List Msg) at bs
  change IPre (ps, ks, bs) at hp
  show vfun tab _ k55 Try.f55 [.agg [.sl .str ps, .sl (.int .i64) ks, .sl (.slice MsgT) bs]] [] _
  refine Ev.out ?_
  repeat' (first | ((with_reducible refine Ev.mk ?_); conv => whnf) | (with_reducible refine And.intro ?_ ?_) | (intro h))
  all_goals (try simp only [decide_eq_true_eq, decide_eq_false_iff_not, beq_iff_eq, bne_iff_ne, beq_eq_false_iff_ne, bne_eq_false_iff_eq, Int.toNat_natCast, ge_iff_le, gt_iff_lt, Bool.not_eq_true', Bool.not_eq_false', Int.not_lt, Int.not_le, ne_eq] at *)
  all_goals (try dsimp only [Ty.den, Ty.dflt, InT, sWhole, sWholeR, sLayI, sLayIR] at *)
  all_goals (try simp only [eq4, ne4, eq3, ne3, eq2, ne2, Prod.eta, List.length_cons, List.length_nil, List.length_append, Nat.zero_add] at *)
  all_goals (try simp (disch := omega) only [wrap64] at *)
  all_goals try first | exact leafDraw (by kernel_rfl) | exact Leaf.mk trivial | (refine Leaf.mk ?_; omega) | (refine Leaf.mk ?_; unfold maxLen; omega)
  all_goals first
    | exact Leaf.mk ⟨hp, ‹wholeI (ps, ks, bs) = true›⟩
    | (refine Leaf.mk (ret1 (show (0 : Int) = (sizeI (ps, ks, bs) : Nat) from ?_)); rw [sizeI, if_neg (by rw [show wholeI (ps, ks, bs) = false from ‹_›]; simp)]; rfl)
    | (refine Leaf.mk (ret1 (show (((layI (ps, ks, bs)).length : Nat) : Int) = (sizeI (ps, ks, bs) : Nat) from ?_)); rw [sizeI, if_pos ‹wholeI (ps, ks, bs) = true›])
    | skip
end Go.Proofs.Ytoedpnniaikfbaa

set_option linter.unusedVariables false
set_option linter.unusedSimpArgs false
set_option maxRecDepth 8000
set_option maxHeartbeats 4000000
namespace Go.Proofs.Ytoedpnniaikfbaa
open Go.Eng
theorem sleN (x b : List UInt8) : (sless x b || x == b) = !sless b x := by
  cases h : sless b x with
  | true =>
    have h1 := sless_iff.1 h
    have h2 : sless x b = false := by rw [sless_eq]; exact decide_eq_false (slt_asymm h1)
    have h3 : ¬ x = b := fun hc => by rw [hc] at h1; exact slt_irrefl _ h1
    simp [h2, h3]
  | false =>
    by_cases h1 : x < b
    · simp [sless_iff.2 h1]
    · have : x = b := slt_total h1 (fun hc => by rw [sless_iff.2 hc] at h; cases h)
      simp [this]
theorem atP_eq (k p : List UInt8) : atP k p = !sless k p := sleN p k
def bigT (p : List UInt8) : Bool := decide (((p.length : Nat) : Int) > 16)
def outK (k : Int) : Bool := decide (k < 0) || decide (k > 1099511627776)
def lBig : LSpec := ⟨.str, .bool, [], fun v _ => bigT v⟩
theorem fBig : FnOk Try.prog 149 := ⟨_, Try.func149, by decide, rfl⟩
theorem pBig : PSound Try.prog 149 lBig.p := by
  refine psound (T := tab) (S := (spOf [])) (keep := k149) (by kernel_rfl) tabOk spNil (by kernel_rfl) Try.func149 (by kernel_rfl) (by decide) fun xs hg hp => ?_
  obtain ⟨p, ⟨⟩⟩ := xs
  show vfun tab _ k149 Try.f149 [.s p] [] _
  refine Ev.out ?_
  repeat' (first | ((with_reducible refine Ev.mk ?_); conv => whnf) | (with_reducible refine And.intro ?_ ?_) | (intro h))
  exact Leaf.mk rfl
def lOutK : LSpec := ⟨.int .i64, .bool, [], fun v _ => outK v⟩
theorem fOutK : FnOk Try.prog 110 := ⟨_, Try.func110, by decide, rfl⟩
theorem pOutK : PSound Try.prog 110 lOutK.p := by
  refine psound (T := tab) (S := (spOf [])) (keep := k110) (by kernel_rfl) tabOk spNil (by kernel_rfl) Try.func110 (by kernel_rfl) (by decide) fun xs hg hp => ?_
  obtain ⟨k, ⟨⟩⟩ := xs
  change Int at k
  show vfun tab _ k110 Try.f110 [.i .i64 k] [] _
  refine Ev.out ?_
  repeat' (first | ((with_reducible refine Ev.mk ?_); conv => whnf) | (with_reducible refine And.intro ?_ ?_) | (intro h))
  · refine Leaf.mk (ret1 (show true = outK k from ?_))
    rw [outK, show decide (k < 0) = true from ‹_›]; rfl
  · refine Leaf.mk (ret1 (show decide (k > 1099511627776) = outK k from ?_))
    rw [outK, show decide (k < 0) = false from ‹_›]; rfl
abbrev S8 : Type := List UInt8
abbrev I64T : Ty := .int .i64
def sIndexFuncS : PSpec := ⟨[.d (.slice .str), .lam .str .bool], [⟨false, [.d (.int .i64)]⟩], fun _ => True, fun x => ((idxF x.2.1 x.1 0, ()), ())⟩
theorem fIndexFuncS : FnOk Try.prog 172 := ⟨_, Try.func172, by decide, rfl⟩
theorem pIndexFuncS : PSound Try.prog 172 sIndexFuncS := by
  refine psound (T := tab) (S := (spOf [])) (keep := k172) (by kernel_rfl) tabOk spNil (by kernel_rfl) Try.func172 (by kernel_rfl) (by decide) fun xs hg hp => ?_
  obtain ⟨xs, p, ⟨⟩⟩ := xs
  obtain ⟨⟨hl, -⟩, -⟩ := hg
  change List S8 at xs
  change S8 → Bool at p
  have hl := len63 hl
  clear hp
  show vfun tab _ k172 Try.f172 [.sl .str xs, .lam .str .bool p] [] _
  refine Ev.out ?_
  repeat' (first | ((with_reducible refine Ev.mk ?_); conv => whnf) | (with_reducible refine And.intro ?_ ?_) | (intro h))
  refine LoopVC.on (fun i : Nat => [(8, .i .i64 i)]) (fun _ => []) (fun i => i ≤ xs.length ∧ idxF p xs 0 = idxF p (xs.drop i) i) (fun i => xs.length - i) 0 rfl ⟨by omega, by simp⟩ ?_
  intro i ⟨hi, he⟩
  repeat' (first | ((with_reducible refine Ev.mk ?_); conv => whnf) | (with_reducible refine And.intro ?_ ?_) | (intro h))
  all_goals (try simp only [decide_eq_true_eq, decide_eq_false_iff_not, beq_iff_eq, bne_iff_ne, beq_eq_false_iff_ne, bne_eq_false_iff_eq, Int.toNat_natCast, ge_iff_le, gt_iff_lt, Bool.not_eq_true', Bool.not_eq_false', Int.not_lt, Int.not_le, ne_eq] at *)
  all_goals (try dsimp only [Ty.den, Ty.dflt, .str] at *)
  all_goals (try simp only [eq4, ne4, eq3, ne3, eq2, ne2, Prod.eta, List.length_cons, List.length_nil, List.length_append, Nat.zero_add] at *)
  all_goals (try simp (disch := omega) only [wrap64] at *)
  all_goals try first | exact leafDraw (by kernel_rfl) | exact Leaf.mk trivial | (refine Leaf.mk ?_; omega) | (refine Leaf.mk ?_; unfold maxLen; omega)
  all_goals first
    | (rw [drop_end (by omega)] at he; exact Leaf.mk (ret1 he.symm))
    | (rw [drop_at [] (by omega), idxF, if_pos (by assumption)] at he; exact Leaf.mk (ret1 he.symm))
    | (rw [drop_at [] (by omega), idxF, if_neg (by simp_all)] at he; exact Leaf.mk ⟨i + 1, rfl, ⟨by omega, he⟩, by omega⟩)
def sContainsFuncS : PSpec := ⟨[.d (.slice .str), .lam .str .bool], [⟨false, [.d .bool]⟩], fun _ => True, fun x => ((List.any x.1 x.2.1, ()), ())⟩
theorem fContainsFuncS : FnOk Try.prog 148 := ⟨_, Try.func148, by decide, rfl⟩
theorem pContainsFuncS : PSound Try.prog 148 sContainsFuncS := by
  refine psound (T := tab) (S := (spOf [(172, sIndexFuncS.spec (lsOf []))])) (keep := k148) (by kernel_rfl) tabOk (spCons (pOk pIndexFuncS fIndexFuncS (by decide) lsNil) spNil) (by kernel_rfl) Try.func148 (by kernel_rfl) (by decide) fun xs hg hp => ?_
  obtain ⟨xs, p, ⟨⟩⟩ := xs
  change List S8 at xs
  change S8 → Bool at p
  show vfun tab _ k148 Try.f148 [.sl .str xs, .lam .str .bool p] [] _
  refine Ev.out ?_
  repeat' (first | ((with_reducible refine Ev.mk ?_); conv => whnf) | (with_reducible refine And.intro ?_ ?_) | (intro h))
  · exact Leaf.mk trivial
  · exact Leaf.mk (ret1 (idxF_any xs 0))
def sIndexFuncI : PSpec := ⟨[.d (.slice I64T), .lam I64T .bool], [⟨false, [.d (.int .i64)]⟩], fun _ => True, fun x => ((idxF x.2.1 x.1 0, ()), ())⟩
theorem fIndexFuncI : FnOk Try.prog 150 := ⟨_, Try.func150, by decide, rfl⟩
theorem pIndexFuncI : PSound Try.prog 150 sIndexFuncI := by
  refine psound (T := tab) (S := (spOf [])) (keep := k150) (by kernel_rfl) tabOk spNil (by kernel_rfl) Try.func150 (by kernel_rfl) (by decide) fun xs hg hp => ?_
  obtain ⟨xs, p, ⟨⟩⟩ := xs
  obtain ⟨⟨hl, -⟩, -⟩ := hg
  change List Int at xs
  change Int → Bool at p
  have hl := len63 hl
  clear hp
  show vfun tab _ k150 Try.f150 [.sl I64T xs, .lam I64T .bool p] [] _
  refine Ev.out ?_
  repeat' (first | ((with_reducible refine Ev.mk ?_); conv => whnf) | (with_reducible refine And.intro ?_ ?_) | (intro h))
  refine LoopVC.on (fun i : Nat => [(8, .i .i64 i)]) (fun _ => []) (fun i => i ≤ xs.length ∧ idxF p xs 0 = idxF p (xs.drop i) i) (fun i => xs.length - i) 0 rfl ⟨by omega, by simp⟩ ?_
  intro i ⟨hi, he⟩
  repeat' (first | ((with_reducible refine Ev.mk ?_); conv => whnf) | (with_reducible refine And.intro ?_ ?_) | (intro h))
  all_goals (try simp only [decide_eq_true_eq, decide_eq_false_iff_not, beq_iff_eq, bne_iff_ne, beq_eq_false_iff_ne, bne_eq_false_iff_eq, Int.toNat_natCast, ge_iff_le, gt_iff_lt, Bool.not_eq_true', Bool.not_eq_false', Int.not_lt, Int.not_le, ne_eq] at *)
  all_goals (try dsimp only [Ty.den, Ty.dflt, I64T] at *)
  all_goals (try simp only [eq4, ne4, eq3, ne3, eq2, ne2, Prod.eta, List.length_cons, List.length_nil, List.length_append, Nat.zero_add] at *)
  all_goals (try simp (disch := omega) only [wrap64] at *)
  all_goals try first | exact leafDraw (by kernel_rfl) | exact Leaf.mk trivial | (refine Leaf.mk ?_; omega) | (refine Leaf.mk ?_; unfold maxLen; omega)
  all_goals first
    | (rw [drop_end (by omega)] at he; exact Leaf.mk (ret1 he.symm))
    | (rw [drop_at 0 (by omega), idxF, if_pos (by assumption)] at he; exact Leaf.mk (ret1 he.symm))
    | (rw [drop_at 0 (by omega), idxF, if_neg (by simp_all)] at he; exact Leaf.mk ⟨i + 1, rfl, ⟨by omega, he⟩, by omega⟩)
def sContainsFuncI : PSpec := ⟨[.d (.slice I64T), .lam I64T .bool], [⟨false, [.d .bool]⟩], fun _ => True, fun x => ((List.any x.1 x.2.1, ()), ())⟩
theorem fContainsFuncI : FnOk Try.prog 109 := ⟨_, Try.func109, by decide, rfl⟩
theorem pContainsFuncI : PSound Try.prog 109 sContainsFuncI := by
  refine psound (T := tab) (S := (spOf [(150, sIndexFuncI.spec (lsOf []))])) (keep := k109) (by kernel_rfl) tabOk (spCons (pOk pIndexFuncI fIndexFuncI (by decide) lsNil) spNil) (by kernel_rfl) Try.func109 (by kernel_rfl) (by decide) fun xs hg hp => ?_
  obtain ⟨xs, p, ⟨⟩⟩ := xs
  change List Int at xs
  change Int → Bool at p
  show vfun tab _ k109 Try.f109 [.sl I64T xs, .lam I64T .bool p] [] _
  refine Ev.out ?_
  repeat' (first | ((with_reducible refine Ev.mk ?_); conv => whnf) | (with_reducible refine And.intro ?_ ?_) | (intro h))
  · exact Leaf.mk trivial
  · exact Leaf.mk (ret1 (idxF_any xs 0))
def lastI (ps : List (List UInt8)) (i : Nat) : List UInt8 := if i = 0 then [] else ps.getD (i - 1) []
def UpT (ps : List (List UInt8)) (n : Nat) : Prop := ∀ j, j < n → sless (lastI ps j) (ps.getD j []) = true
instance (l : List (List UInt8)) (n : Nat) : Decidable (UpT l n) := by unfold UpT; infer_instance
theorem upT_step {l : List (List UInt8)} {i : Nat} (h : UpT l i) (h1 : sless (lastI l i) (l.getD i []) = true) : UpT l (i + 1) := fun j hj => by
  rcases Nat.lt_or_ge j i with hji | hji
  · exact h j hji
  · obtain rfl : j = i := by omega
    exact h1
theorem upT_not {l : List (List UInt8)} {i : Nat} (hl : i < l.length) (h : sless (lastI l i) (l.getD i []) = false) : ¬ UpT l l.length := fun hc => by
  have := hc i hl
  rw [h] at this; exact absurd this (by simp)
def pivE (ps : List (List UInt8)) : Int := if ps.any bigT = true then 5 else if UpT ps ps.length then 0 else 12
def sPivE : PSpec := ⟨[.d TsT], [⟨false, [.d (.int .i64)]⟩], fun _ => True, fun x => ((pivE x.1, ()), ())⟩
theorem fPivE : FnOk Try.prog 108 := ⟨_, Try.func108, by decide, rfl⟩
theorem pPivE : PSound Try.prog 108 sPivE := by
  refine psound (T := tab) (S := (spOf [(148, sContainsFuncS.spec (lsOf [(149, lBig)]))])) (keep := k108) (by kernel_rfl) tabOk (spCons (pOk pContainsFuncS fContainsFuncS (by decide) ((lsCons ⟨pBig, fBig⟩ lsNil))) spNil) (by kernel_rfl) Try.func108 (by kernel_rfl) (by decide) fun xs hg hp => ?_
  obtain ⟨ps, ⟨⟩⟩ := xs
  obtain ⟨⟨hl, -⟩, -⟩ := hg
  change List (List UInt8) at ps
  have hl := len63 hl
  clear hp
  show vfun tab _ k108 Try.f108 [.sl .str ps] [] _
  refine Ev.out ?_
  repeat' (first | ((with_reducible refine Ev.mk ?_); conv => whnf) | (with_reducible refine And.intro ?_ ?_) | (intro h))
  all_goals (try simp only [decide_eq_true_eq, decide_eq_false_iff_not, beq_iff_eq, bne_iff_ne, beq_eq_false_iff_ne, bne_eq_false_iff_eq, Int.toNat_natCast, ge_iff_le, gt_iff_lt, Bool.not_eq_true', Bool.not_eq_false', Int.not_lt, Int.not_le, ne_eq] at *)
  all_goals (try dsimp only [Ty.den, Ty.dflt, TsT, sContainsFuncS] at *)
  all_goals (try simp only [eq4, ne4, eq3, ne3, eq2, ne2, Prod.eta, List.length_cons, List.length_nil, List.length_append, Nat.zero_add] at *)
  all_goals (try simp (disch := omega) only [wrap64] at *)
  all_goals try first
    | exact Leaf.mk trivial
    | (refine Leaf.mk (ret1 (show (5 : Int) = pivE ps from ?_))
       rw [pivE, if_pos (show ps.any bigT = true from ‹_›)])
  have hany : ¬ ps.any bigT = true := by rw [show ps.any bigT = false from ‹_›]; simp
  refine LoopVC.on (fun i : Nat => [(3, .s (lastI ps i)), (10, .i .i64 i)]) (fun _ => []) (fun i => i ≤ ps.length ∧ UpT ps i) (fun i => ps.length - i) 0 rfl ⟨by omega, fun j hj => by omega⟩ ?_
  intro i ⟨hi, hu⟩
  repeat' (first | ((with_reducible refine Ev.mk ?_); conv => whnf) | (with_reducible refine And.intro ?_ ?_) | (intro h))
  all_goals (try simp only [sleN] at *)
  all_goals (try simp only [decide_eq_true_eq, decide_eq_false_iff_not, beq_iff_eq, bne_iff_ne, beq_eq_false_iff_ne, bne_eq_false_iff_eq, Int.toNat_natCast, ge_iff_le, gt_iff_lt, Bool.not_eq_true', Bool.not_eq_false', Int.not_lt, Int.not_le, ne_eq] at *)
  all_goals (try dsimp only [Ty.den, Ty.dflt, TsT] at *)
  all_goals (try simp only [eq4, ne4, eq3, ne3, eq2, ne2, Prod.eta, List.length_cons, List.length_nil, List.length_append, Nat.zero_add] at *)
  all_goals (try simp (disch := omega) only [wrap64] at *)
  all_goals try first | exact leafDraw (by kernel_rfl) | exact Leaf.mk trivial | (refine Leaf.mk ?_; omega) | (refine Leaf.mk ?_; unfold maxLen; omega)
  · refine Leaf.mk (ret1 (show (12 : Int) = pivE ps from ?_))
    rw [pivE, if_neg hany, if_neg (upT_not (by omega) h)]
  · exact Leaf.mk ⟨i + 1, rfl, ⟨by omega, upT_step hu h⟩, by omega⟩
  · refine Leaf.mk (ret1 (show (0 : Int) = pivE ps from ?_))
    rw [pivE, if_neg hany, if_pos (by rw [show ps.length = i by omega]; exact hu)]
def fnz : List Int → Int
  | [] => 0
  | e :: r => if e = 0 then fnz r else e
theorem fnz_at {α : Type} {f : α → Int} {l : List α} {i : Nat} (d : α) (h : i < l.length) : fnz ((l.drop i).map f) = if f (l.getD i d) = 0 then fnz ((l.drop (i + 1)).map f) else f (l.getD i d) := by
  rw [drop_at d h, List.map_cons, fnz]
def ew (n : Inn) (i : Int) (m : Msg) : Int := if mcheck m = 0 then (if m.1 = 0 ∧ ¬ ((routeI n.1 m.2.1 : Nat) : Int) = i then 12 else 0) else mcheck m
theorem ew_eq (n : Inn) (i : Int) (m : Msg) : ew n i m = if mcheck m = 0 then (if m.1 = 0 ∧ ¬ ((routeI n.1 m.2.1 : Nat) : Int) = i then 12 else 0) else mcheck m := rfl
def waitsI (n : Inn) (i : Nat) : Int := fnz ((n.2.2.getD i []).map (ew n i))
def sWaits : PSpec := ⟨[.d InT, .d (.int .i64)], [⟨false, [.d (.int .i64)]⟩], fun x => 0 ≤ x.2.1 ∧ x.2.1 < ((List.length x.1.2.2 : Nat) : Int) ∧ List.length x.1.2.2 ≤ 1000, fun x => ((waitsI x.1 x.2.1.toNat, ()), ())⟩
theorem fWaits : FnOk Try.prog 111 := ⟨_, Try.func111, by decide, rfl⟩
theorem pWaits : PSound Try.prog 111 sWaits := by
  refine psound (T := tab) (S := (spOf [(21, sMCheck.spec (lsOf [])), (53, sRoute.spec (lsOf []))])) (keep := k111) (by kernel_rfl) tabOk (spCons (pOk pMCheck fMCheck (by decide) lsNil) (spCons (pOk pRoute fRoute (by decide) lsNil) spNil)) (by kernel_rfl) Try.func111 (by kernel_rfl) (by decide) fun xs hg hp => ?_
  obtain ⟨⟨ps, ks, bs⟩, i, ⟨⟩⟩ := xs
  obtain ⟨⟨-, -, ⟨-, hgb⟩⟩, -⟩ := hg
  change List (List UInt8) at ps
  change List Int at ks
  change List (List Msg) at bs
  change Int at i
  change 0 ≤ i ∧ i < (bs.length : Int) ∧ bs.length ≤ 1000 at hp
  obtain ⟨i, rfl⟩ := Int.eq_ofNat_of_zero_le hp.1
  have hbl : (bs.getD i []).length ≤ 9223372036854775807 := len63 (hgb _ (getD_mem (xs := bs) [] (by omega))).1
  clear hgb
  show vfun tab _ k111 Try.f111 [.agg [.sl .str ps, .sl (.int .i64) ks, .sl (.slice MsgT) bs], .i .i64 i] [] _
  refine Ev.out ?_
  repeat' (first | ((with_reducible refine Ev.mk ?_); conv => whnf) | (with_reducible refine And.intro ?_ ?_) | (intro h))
  all_goals (try simp only [decide_eq_true_eq, decide_eq_false_iff_not, beq_iff_eq, bne_iff_ne, beq_eq_false_iff_ne, bne_eq_false_iff_eq, Int.toNat_natCast, ge_iff_le, gt_iff_lt, Bool.not_eq_true', Bool.not_eq_false', Int.not_lt, Int.not_le, ne_eq] at *)
  all_goals (try dsimp only [Ty.den, Ty.dflt, InT] at *)
  all_goals (try simp only [eq4, ne4, eq3, ne3, eq2, ne2, Prod.eta, List.length_cons, List.length_nil, List.length_append, Nat.zero_add] at *)
  all_goals (try simp (disch := omega) only [wrap64] at *)
  all_goals try first | exact leafDraw (by kernel_rfl) | exact Leaf.mk trivial | (refine Leaf.mk ?_; omega) | (refine Leaf.mk ?_; unfold maxLen; omega)
  refine LoopVC.on (fun j : Nat => [(14, .i .i64 j)]) (fun _ => []) (fun j => j ≤ (bs.getD i []).length ∧ waitsI (ps, ks, bs) i = fnz (((bs.getD i []).drop j).map (ew (ps, ks, bs) i))) (fun j => (bs.getD i []).length - j) 0 rfl ⟨by omega, rfl⟩ ?_
  intro j ⟨hj, he⟩
  repeat' (first | ((with_reducible refine Ev.mk ?_); conv => whnf) | (with_reducible refine And.intro ?_ ?_) | (intro h))
  all_goals (try simp only [decide_eq_true_eq, decide_eq_false_iff_not, beq_iff_eq, bne_iff_ne, beq_eq_false_iff_ne, bne_eq_false_iff_eq, Int.toNat_natCast, ge_iff_le, gt_iff_lt, Bool.not_eq_true', Bool.not_eq_false', Int.not_lt, Int.not_le, ne_eq] at *)
  all_goals (try dsimp only [Ty.den, Ty.dflt, InT, sMCheck, sRoute] at *)
  all_goals (try simp only [eq4, ne4, eq3, ne3, eq2, ne2, Prod.eta, List.length_cons, List.length_nil, List.length_append, Nat.zero_add] at *)
  all_goals (try simp (disch := omega) only [wrap64] at *)
  all_goals try first | exact leafDraw (by kernel_rfl) | exact Leaf.mk trivial | (refine Leaf.mk ?_; omega) | (refine Leaf.mk ?_; unfold maxLen; omega)
  all_goals
    have hat := fun h => fnz_at (f := ew (ps, ks, bs) i) (l := bs.getD i []) (i := j) msg0 h
    have hst : j < (bs.getD i []).length → ew (ps, ks, bs) i ((bs.getD i []).getD j msg0) = 0 → waitsI (ps, ks, bs) i = fnz (((bs.getD i []).drop (j + 1)).map (ew (ps, ks, bs) i)) := fun h h1 => by rw [he, hat h, if_pos h1]
    have hno : j < (bs.getD i []).length → ¬ ew (ps, ks, bs) i ((bs.getD i []).getD j msg0) = 0 → waitsI (ps, ks, bs) i = ew (ps, ks, bs) i ((bs.getD i []).getD j msg0) := fun h h1 => by rw [he, hat h, if_neg h1]
    have hew := ew_eq (ps, ks, bs) i ((bs.getD i []).getD j msg0)
    clear hat
  · rw [if_neg ‹¬ mcheck _ = 0›] at hew
    refine Leaf.mk (ret1 (show mcheck ((bs.getD i []).getD j msg0) = waitsI (ps, ks, bs) i from ?_))
    rw [hno (by omega) (by rw [hew]; assumption), hew]
  · rw [if_pos ‹mcheck _ = 0›, if_pos ⟨‹_›, ‹_›⟩] at hew
    refine Leaf.mk (ret1 (show (12 : Int) = waitsI (ps, ks, bs) i from ?_))
    rw [hno (by omega) (by omega), hew]
  · rw [if_pos ‹mcheck _ = 0›, if_neg (fun h => h.2 ‹_›)] at hew
    exact Leaf.mk ⟨j + 1, rfl, ⟨by omega, hst (by omega) hew⟩, by omega⟩
  · rw [if_pos ‹mcheck _ = 0›, if_neg (fun h => absurd h.1 ‹_›)] at hew
    exact Leaf.mk ⟨j + 1, rfl, ⟨by omega, hst (by omega) hew⟩, by omega⟩
  · rw [drop_end (by omega)] at he
    exact Leaf.mk (ret1 he.symm)
def waitE (n : Inn) : Int := fnz ((List.range n.2.2.length).map (waitsI n))
theorem range_getD {k i : Nat} (h : i < k) : (List.range k).getD i 0 = i := by simp [h]
def checkI (n : Inn) : Int := if wholeI n = false ∨ n.2.1.length < 2 ∨ 6 < n.2.1.length then 4 else if pivE n.1 = 0 then (if n.2.1.any outK = true then 9 else if waitE n = 0 then (if 1016 < sizeI n then 5 else 0) else waitE n) else pivE n.1
theorem checkI_form {n : Inn} (h : wholeI n = false ∨ n.2.1.length < 2 ∨ 6 < n.2.1.length) : checkI n = 4 := by rw [checkI, if_pos h]
theorem checkI_piv {n : Inn} (h : ¬ (wholeI n = false ∨ n.2.1.length < 2 ∨ 6 < n.2.1.length)) (h1 : ¬ pivE n.1 = 0) : checkI n = pivE n.1 := by rw [checkI, if_neg h, if_neg h1]
theorem checkI_kid {n : Inn} (h : ¬ (wholeI n = false ∨ n.2.1.length < 2 ∨ 6 < n.2.1.length)) (h1 : pivE n.1 = 0) (h2 : n.2.1.any outK = true) : checkI n = 9 := by rw [checkI, if_neg h, if_pos h1, if_pos h2]
theorem checkI_wait {n : Inn} (h : ¬ (wholeI n = false ∨ n.2.1.length < 2 ∨ 6 < n.2.1.length)) (h1 : pivE n.1 = 0) (h2 : n.2.1.any outK = false) (h3 : ¬ waitE n = 0) : checkI n = waitE n := by rw [checkI, if_neg h, if_pos h1, if_neg (by rw [h2]; simp), if_neg h3]
theorem checkI_big {n : Inn} (h : ¬ (wholeI n = false ∨ n.2.1.length < 2 ∨ 6 < n.2.1.length)) (h1 : pivE n.1 = 0) (h2 : n.2.1.any outK = false) (h3 : waitE n = 0) : checkI n = if 1016 < sizeI n then 5 else 0 := by rw [checkI, if_neg h, if_pos h1, if_neg (by rw [h2]; simp), if_pos h3]
def sICheck : PSpec := ⟨[.d InT], [⟨false, [.d (.int .i64)]⟩], fun x => IPre x.1, fun x => ((checkI x.1, ()), ())⟩
def sICheckR : PSpec := sICheck
theorem fICheck : FnOk Try.prog 51 := ⟨_, Try.func51, by decide, rfl⟩
theorem pICheck : PSound Try.prog 51 sICheck := by
  refine psound (T := tab) (S := (spOf [(101, sWhole.spec (lsOf [(110, lOutK)])), (108, sPivE.spec (lsOf [(110, lOutK)])), (109, sContainsFuncI.spec (lsOf [(110, lOutK)])), (111, sWaits.spec (lsOf [(110, lOutK)])), (55, sISize.spec (lsOf [(110, lOutK)]))])) (keep := k51) (by kernel_rfl) tabOk (spCons (pOk pWhole fWhole (by decide) ((lsCons ⟨pOutK, fOutK⟩ lsNil))) (spCons (pOk pPivE fPivE (by decide) ((lsCons ⟨pOutK, fOutK⟩ lsNil))) (spCons (pOk pContainsFuncI fContainsFuncI (by decide) ((lsCons ⟨pOutK, fOutK⟩ lsNil))) (spCons (pOk pWaits fWaits (by decide) ((lsCons ⟨pOutK, fOutK⟩ lsNil))) (spCons (pOk pISize fISize (by decide) ((lsCons ⟨pOutK, fOutK⟩ lsNil))) spNil))))) (by kernel_rfl) Try.func51 (by kernel_rfl) (by decide) fun xs hg hp => ?_
  obtain ⟨⟨ps, ks, bs⟩, ⟨⟩⟩ := xs
  clear hg
  change List (List UInt8) at ps
  change List Int at ks
  change List (List Msg) at bs
  change IPre (ps, ks, bs) at hp
  have hP := hp.p
  have hK := hp.k
  have hB := hp.b
  dsimp only at hP hK hB
  show vfun tab _ k51 Try.f51 [.agg [.sl .str ps, .sl (.int .i64) ks, .sl (.slice MsgT) bs]] [] _
  refine Ev.out ?_
  repeat' (first | ((with_reducible refine Ev.mk ?_); conv => whnf) | (with_reducible refine And.intro ?_ ?_) | (intro h))
  all_goals (try simp only [decide_eq_true_eq, decide_eq_false_iff_not, beq_iff_eq, bne_iff_ne, beq_eq_false_iff_ne, bne_eq_false_iff_eq, Int.toNat_natCast, ge_iff_le, gt_iff_lt, Bool.not_eq_true', Bool.not_eq_false', Int.not_lt, Int.not_le, ne_eq] at *)
  all_goals (try dsimp only [Ty.den, Ty.dflt, InT, sWhole, sPivE, sContainsFuncI] at *)
  all_goals (try simp only [eq4, ne4, eq3, ne3, eq2, ne2, Prod.eta, List.length_cons, List.length_nil, List.length_append, Nat.zero_add] at *)
  all_goals (try simp (disch := omega) only [wrap64] at *)
  all_goals try first | exact leafDraw (by kernel_rfl) | exact Leaf.mk trivial | (refine Leaf.mk ?_; omega) | (refine Leaf.mk ?_; unfold maxLen; omega)
  · exact Leaf.mk (ret1 (checkI_form (n := (ps, ks, bs)) (.inl ‹_›)).symm)
  · exact Leaf.mk (ret1 (checkI_form (n := (ps, ks, bs)) (.inr (.inl (show ks.length < 2 by omega)))).symm)
  · exact Leaf.mk (ret1 (checkI_form (n := (ps, ks, bs)) (.inr (.inr (show 6 < ks.length by omega)))).symm)
  all_goals
    have hwh : wholeI (ps, ks, bs) = true := ‹_›
    have hn : ¬ (wholeI (ps, ks, bs) = false ∨ ks.length < 2 ∨ 6 < ks.length) := by rw [hwh]; simp; omega
    have hw2 := (wholeI_iff.1 hwh).1
    dsimp only at hw2
  · exact Leaf.mk (ret1 (checkI_piv (n := (ps, ks, bs)) hn ‹_›).symm)
  · exact Leaf.mk (ret1 (checkI_kid (n := (ps, ks, bs)) hn ‹_› ‹_›).symm)
  have hk9 : ks.any outK = false := ‹_›
  have hp0 : pivE ps = 0 := ‹_›
  refine LoopVC.on (fun i : Nat => [(33, .i .i64 i)]) (fun _ => []) (fun i => i ≤ ks.length ∧ waitE (ps, ks, bs) = fnz (((List.range bs.length).drop i).map (waitsI (ps, ks, bs)))) (fun i => ks.length - i) 0 rfl ⟨by omega, rfl⟩ ?_
  intro i ⟨hi, he⟩
  repeat' (first | ((with_reducible refine Ev.mk ?_); conv => whnf) | (with_reducible refine And.intro ?_ ?_) | (intro h))
  all_goals (try simp only [decide_eq_true_eq, decide_eq_false_iff_not, beq_iff_eq, bne_iff_ne, beq_eq_false_iff_ne, bne_eq_false_iff_eq, Int.toNat_natCast, ge_iff_le, gt_iff_lt, Bool.not_eq_true', Bool.not_eq_false', Int.not_lt, Int.not_le, ne_eq] at *)
  all_goals (try dsimp only [Ty.den, Ty.dflt, InT, sWaits, sISize] at *)
  all_goals (try simp only [eq4, ne4, eq3, ne3, eq2, ne2, Prod.eta, List.length_cons, List.length_nil, List.length_append, Nat.zero_add] at *)
  all_goals (try simp (disch := omega) only [wrap64] at *)
  all_goals try first | exact leafDraw (by kernel_rfl) | exact Leaf.mk trivial | (refine Leaf.mk ?_; omega) | (refine Leaf.mk ?_; unfold maxLen; omega)
  all_goals try
    have hat := fnz_at (f := waitsI (ps, ks, bs)) (l := List.range bs.length) (i := i) 0 (by rw [List.length_range]; omega)
    rw [range_getD (by omega)] at hat
    rw [hat] at he
  · exact Leaf.mk (show 0 ≤ ((i : Nat) : Int) ∧ ((i : Nat) : Int) < ((bs.length : Nat) : Int) ∧ bs.length ≤ 1000 by omega)
  · rw [if_neg ‹¬ waitsI (ps, ks, bs) i = 0›] at he
    refine Leaf.mk (ret1 (show waitsI (ps, ks, bs) i = checkI (ps, ks, bs) from ?_))
    rw [checkI_wait (n := (ps, ks, bs)) hn hp0 hk9 (by rw [he]; assumption), he]
  · rw [if_pos ‹waitsI (ps, ks, bs) i = 0›] at he
    exact Leaf.mk ⟨i + 1, rfl, ⟨by omega, he⟩, by omega⟩
  all_goals
    rw [drop_end (by rw [List.length_range]; omega)] at he
    have hb := checkI_big (n := (ps, ks, bs)) hn hp0 hk9 he
  · refine Leaf.mk (ret1 (show (5 : Int) = checkI (ps, ks, bs) from ?_))
    rw [hb, if_pos (by omega)]
  · refine Leaf.mk (ret1 (show (0 : Int) = checkI (ps, ks, bs) from ?_))
    rw [hb, if_neg (by omega)]
end Go.Proofs.Ytoedpnniaikfbaa

set_option linter.unusedVariables false
set_option linter.unusedSimpArgs false
set_option maxRecDepth 8000
set_option maxHeartbeats 4000000
namespace Go.Proofs.Ytoedpnniaikfbaa
open Go.Eng
theorem sless_nil {p : List UInt8} (h : ¬ p = []) : sless [] p = true := by
  cases p with
  | nil => exact absurd rfl h
  | cons x p => rfl
theorem sless_no (p : List UInt8) : sless p [] = false := by
  cases p with
  | nil => rfl
  | cons x p => rfl
end Go.Proofs.Ytoedpnniaikfbaa

set_option linter.unusedVariables false
set_option linter.unusedSimpArgs false
set_option maxRecDepth 8000
set_option maxHeartbeats 4000000
namespace Go.Proofs.Ytoedpnniaikfbaa
open Go.Eng
def putI (n : Inn) : List Int × Int := if checkI n = 0 then (layI n, 0) else ([], checkI n)
theorem retPi {u v : List Int × Int} (h : u = v) : (some ((u.1, ()), (u.2, ()), ()) : Option ((List Int × Unit) × (Int × Unit) × Unit)) = some ((v.1, ()), (v.2, ()), ()) := by rw [h]
theorem checkI_whole {n : Inn} (h : checkI n = 0) : wholeI n = true := by
  cases hw : wholeI n
  · rw [checkI_form (.inl hw)] at h; exact absurd h (by decide)
  · rfl
def sIPut : PSpec := ⟨[.d InT], [⟨false, [.o 5 (.int .u8)]⟩, ⟨false, [.d (.int .i64)]⟩], fun x => IPre x.1, fun x => (((putI x.1).1, ()), ((putI x.1).2, ()), ())⟩
theorem fIPut : FnOk Try.prog 93 := ⟨_, Try.func93, by decide, rfl⟩
theorem pIPut : PSound Try.prog 93 sIPut := by
  refine psound (T := tab) (S := (spOf [(51, sICheck.spec (lsOf [])), (112, sLayI.spec (lsOf []))])) (keep := k93) (by kernel_rfl) tabOk (spCons (pOk pICheck fICheck (by decide) lsNil) (spCons (pOk pLayI fLayI (by decide) lsNil) spNil)) (by kernel_rfl) Try.func93 (by kernel_rfl) (by decide) fun xs hg hp => ?_
  obtain ⟨⟨ps, ks, bs⟩, ⟨⟩⟩ := xs
  clear hg
  change List (List UInt8) at ps
  change List Int at ks
  change List (List Msg) at bs
  change IPre (ps, ks, bs) at hp
  show vfun tab _ k93 Try.f93 [.agg [.sl .str ps, .sl (.int .i64) ks, .sl (.slice MsgT) bs]] [] _
  refine Ev.out ?_
  repeat' (first | ((with_reducible refine Ev.mk ?_); conv => whnf) | (with_reducible refine And.intro ?_ ?_) | (intro h))
  all_goals (try simp only [decide_eq_true_eq, decide_eq_false_iff_not, beq_iff_eq, bne_iff_ne, beq_eq_false_iff_ne, bne_eq_false_iff_eq, Int.toNat_natCast, ge_iff_le, gt_iff_lt, Bool.not_eq_true', Bool.not_eq_false', Int.not_lt, Int.not_le, ne_eq] at *)
  all_goals (try dsimp only [Ty.den, Ty.dflt, InT, sICheck, sICheckR, sLayI, sLayIR] at *)
  all_goals (try simp only [eq4, ne4, eq3, ne3, eq2, ne2, Prod.eta, List.length_cons, List.length_nil, List.length_append, Nat.zero_add] at *)
  all_goals (try simp (disch := omega) only [wrap64] at *)
  all_goals try first | exact leafDraw (by kernel_rfl) | exact Leaf.mk trivial | (refine Leaf.mk ?_; omega) | (refine Leaf.mk ?_; unfold maxLen; omega)
  all_goals first
    | exact Leaf.mk hp
    | exact Leaf.mk ⟨hp, checkI_whole ‹checkI (ps, ks, bs) = 0›⟩
    | (refine Leaf.mk (retPi (u := ([], checkI (ps, ks, bs))) (v := putI (ps, ks, bs)) ?_); rw [putI, if_neg ‹¬ checkI (ps, ks, bs) = 0›])
    | (refine Leaf.mk (retPi (u := (layI (ps, ks, bs), 0)) (v := putI (ps, ks, bs)) ?_); rw [putI, if_pos ‹checkI (ps, ks, bs) = 0›])
    | skip
end Go.Proofs.Ytoedpnniaikfbaa
