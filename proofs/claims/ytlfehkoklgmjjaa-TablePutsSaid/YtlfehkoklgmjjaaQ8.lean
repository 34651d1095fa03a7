import Derived.Test.YtlfehkoklgmjjaaQ7
import Derived.Test.YtlfehkoklgmjjaaQ5
import Derived.Test.YtlfehkoklgmjjaaQ6
/- Texts, one behind the other. -/
set_option linter.unusedVariables false
set_option linter.unusedSimpArgs false
set_option maxRecDepth 8000
set_option maxHeartbeats 4000000
namespace Go.Proofs.Ytlfehkoklgmjjaa
open Go.Eng
def sEqualS : PSpec := ⟨[.d TxT, .d TxT], [⟨false, [.d .bool]⟩], fun _ => True, fun x => ((decide ((x.1 : Tx) = x.2.1), ()), ())⟩
theorem fEqualS : FnOk Try.prog 116 := ⟨_, Try.func116, by decide, rfl⟩
theorem pEqualS : PSound Try.prog 116 sEqualS := by
  refine psound (T := tab) (S := (spOf [])) (keep := k116) (by kernel_rfl) tabOk spNil (by kernel_rfl) Try.func116 (by kernel_rfl) (by decide) fun xs hg hp => ?_
  obtain ⟨xs, ys, ⟨⟩⟩ := xs
  obtain ⟨⟨hl, -⟩, ⟨hl2, -⟩, -⟩ := hg
  have hl := len63 hl
  have hl2 := len63 hl2
  change List (List UInt8) at xs ys
  change xs.length ≤ _ at hl
  change ys.length ≤ _ at hl2
  clear hp
  show vfun tab _ k116 Try.f116 [.sl .str xs, .sl .str ys] [] _
  refine Ev.out ?_
  repeat' (first | ((with_reducible refine Ev.mk ?_); conv => whnf) | (with_reducible refine And.intro ?_ ?_) | (intro h))
  all_goals (try simp only [decide_eq_true_eq, decide_eq_false_iff_not, beq_iff_eq, bne_iff_ne, beq_eq_false_iff_ne, bne_eq_false_iff_eq, Int.toNat_natCast, ge_iff_le, gt_iff_lt, Bool.not_eq_true', Bool.not_eq_false', Int.not_lt, Int.not_le, ne_eq] at *)
  all_goals (try dsimp only [Ty.den, Ty.dflt, TxT] at *)
  all_goals (try simp only [eq4, ne4, eq3, ne3, eq2, ne2, Prod.eta, List.length_cons, List.length_nil, List.length_append, Nat.zero_add] at *)
  all_goals (try simp (disch := omega) only [wrap64] at *)
  · refine Leaf.mk (ret1 (show false = decide (xs = ys) from ?_))
    rw [eq_comm, decide_eq_false_iff_not]; intro hc; subst hc; omega
  refine LoopVC.on (fun i : Nat => [(13, .i .i64 i)]) (fun _ => []) (fun i => i ≤ xs.length ∧ xs.take i = ys.take i) (fun i => xs.length - i) 0 rfl ⟨by omega, by simp⟩ ?_
  intro i ⟨hi, he⟩
  repeat' (first | ((with_reducible refine Ev.mk ?_); conv => whnf) | (with_reducible refine And.intro ?_ ?_) | (intro h))
  all_goals (try simp only [decide_eq_true_eq, decide_eq_false_iff_not, beq_iff_eq, bne_iff_ne, beq_eq_false_iff_ne, bne_eq_false_iff_eq, Int.toNat_natCast, ge_iff_le, gt_iff_lt, Bool.not_eq_true', Bool.not_eq_false', Int.not_lt, Int.not_le, ne_eq] at *)
  all_goals (try dsimp only [Ty.den, Ty.dflt, TxT] at *)
  all_goals (try simp only [eq4, ne4, eq3, ne3, eq2, ne2, Prod.eta, List.length_cons, List.length_nil, List.length_append, Nat.zero_add] at *)
  all_goals (try simp (disch := omega) only [wrap64] at *)
  all_goals try first | exact leafDraw (by kernel_rfl) | exact Leaf.mk trivial | (refine Leaf.mk ?_; omega) | (refine Leaf.mk ?_; unfold maxLen; omega)
  all_goals first
    | exact Leaf.mk (ret1 (show false = decide (xs = ys) by rw [eq_comm, decide_eq_false_iff_not]; exact same_not [] h))
    | exact Leaf.mk ⟨i + 1, rfl, ⟨by omega, same_step [] (by omega) he (by omega) h⟩, by omega⟩
    | exact Leaf.mk (ret1 (show true = decide (xs = ys) by rw [eq_comm, decide_eq_true_eq]; exact same_end (by omega) he (by omega)))
def sSame1X : PSpec := ⟨[.d TxnT, .d TxnT], [⟨false, [.d .bool]⟩], fun _ => True, fun x => ((decide ((x.1 : Txn) = x.2.1), ()), ())⟩
def sSameTxn : PSpec := sSame1X
theorem fSame1X : FnOk Try.prog 115 := ⟨_, Try.func115, by decide, rfl⟩
theorem pSame1X : PSound Try.prog 115 sSame1X := by
  refine psound (T := tab) (S := (spOf [(116, sEqualS.spec (lsOf []))])) (keep := k115) (by kernel_rfl) tabOk (spCons (pOk pEqualS fEqualS (by decide) lsNil) spNil) (by kernel_rfl) Try.func115 (by kernel_rfl) (by decide) fun xs hg hp => ?_
  obtain ⟨⟨id, st, ks⟩, ⟨id2, st2, ks2⟩, ⟨⟩⟩ := xs
  change Int at id id2 st st2
  change List (List UInt8) at ks ks2
  clear hp hg
  show vfun tab _ k115 Try.f115 [.agg [.i .i64 id, .i .i64 st, .sl .str ks], .agg [.i .i64 id2, .i .i64 st2, .sl .str ks2]] [] _
  refine Ev.out ?_
  repeat' (first | ((with_reducible refine Ev.mk ?_); conv => whnf) | (with_reducible refine And.intro ?_ ?_) | (intro h))
  all_goals (try simp only [decide_eq_true_eq, decide_eq_false_iff_not, beq_iff_eq, bne_iff_ne, beq_eq_false_iff_ne, bne_eq_false_iff_eq, Int.toNat_natCast, ge_iff_le, gt_iff_lt, Bool.not_eq_true', Bool.not_eq_false', Int.not_lt, Int.not_le, ne_eq] at *)
  all_goals (try dsimp only [Ty.den, Ty.dflt, TxnT, sEqualS, sSameTexts] at *)
  all_goals (try simp only [eq4, ne4, eq3, ne3, eq2, ne2, Prod.eta, List.length_cons, List.length_nil, List.length_append, Nat.zero_add] at *)
  all_goals (try simp (disch := omega) only [wrap64] at *)
  all_goals try first | exact leafDraw (by kernel_rfl) | exact Leaf.mk trivial | (refine Leaf.mk ?_; omega) | (refine Leaf.mk ?_; unfold maxLen; omega)
  all_goals
    refine Leaf.mk (ret1 (show _ = decide (((id, st, ks) : Txn) = (id2, st2, ks2)) from ?_))
    simp [Prod.mk.injEq, sameTx, *]
theorem fSameTxn : FnOk Try.prog 113 := ⟨_, Try.func113, by decide, rfl⟩
theorem pSameTxn : PSound Try.prog 113 sSameTxn := by
  refine psound (T := tab) (S := (spOf [(29, sSameTexts.spec (lsOf []))])) (keep := k113) (by kernel_rfl) tabOk (spCons (pOk pSameTexts fSameTexts (by decide) lsNil) spNil) (by kernel_rfl) Try.func113 (by kernel_rfl) (by decide) fun xs hg hp => ?_
  obtain ⟨⟨id, st, ks⟩, ⟨id2, st2, ks2⟩, ⟨⟩⟩ := xs
  change Int at id id2 st st2
  change List (List UInt8) at ks ks2
  clear hp hg
  show vfun tab _ k113 Try.f113 [.agg [.i .i64 id, .i .i64 st, .sl .str ks], .agg [.i .i64 id2, .i .i64 st2, .sl .str ks2]] [] _
  refine Ev.out ?_
  repeat' (first | ((with_reducible refine Ev.mk ?_); conv => whnf) | (with_reducible refine And.intro ?_ ?_) | (intro h))
  all_goals (try simp only [decide_eq_true_eq, decide_eq_false_iff_not, beq_iff_eq, bne_iff_ne, beq_eq_false_iff_ne, bne_eq_false_iff_eq, Int.toNat_natCast, ge_iff_le, gt_iff_lt, Bool.not_eq_true', Bool.not_eq_false', Int.not_lt, Int.not_le, ne_eq] at *)
  all_goals (try dsimp only [Ty.den, Ty.dflt, TxnT, sEqualS, sSameTexts] at *)
  all_goals (try simp only [eq4, ne4, eq3, ne3, eq2, ne2, Prod.eta, List.length_cons, List.length_nil, List.length_append, Nat.zero_add] at *)
  all_goals (try simp (disch := omega) only [wrap64] at *)
  all_goals try first | exact leafDraw (by kernel_rfl) | exact Leaf.mk trivial | (refine Leaf.mk ?_; omega) | (refine Leaf.mk ?_; unfold maxLen; omega)
  all_goals
    refine Leaf.mk (ret1 (show _ = decide (((id, st, ks) : Txn) = (id2, st2, ks2)) from ?_))
    simp [Prod.mk.injEq, sameTx, *]
theorem fEqX : FnOk Try.prog 114 := ⟨_, Try.func114, by decide, rfl⟩
noncomputable def iEqX : Eng.Spec := inl tab (spOf [(115, sSame1X.spec (lsOf []))]) k114 Try.f114
theorem pEqX : SpecOk Try.prog 114 iEqX := inl_ok tabOk (spCons (pOk pSame1X fSame1X (by decide) lsNil) spNil) (by kernel_rfl) Try.func114 (by kernel_rfl)
def sSame23 : PSpec := ⟨[.d TabT, .d TabT], [⟨false, [.d .bool]⟩], fun x => okT x.1, fun x => ((decide ((x.1 : Tabl) = x.2.1), ()), ())⟩
def sSame23R : PSpec := sSame23
theorem tab_ne1 {nx nx2 : Int} {l l2 : List Txn} (h : ¬ nx = nx2) : false = decide (((nx, l) : Tabl) = (nx2, l2)) := (decide_eq_false fun hc => h (congrArg Prod.fst hc)).symm
theorem tab_ne2 {nx nx2 : Int} {l l2 : List Txn} (h : ¬ l = l2) : false = decide (((nx, l) : Tabl) = (nx2, l2)) := (decide_eq_false fun hc => h (congrArg Prod.snd hc)).symm
theorem tab_eq {nx nx2 : Int} {l l2 : List Txn} (h1 : nx = nx2) (h2 : l = l2) : true = decide (((nx, l) : Tabl) = (nx2, l2)) := (decide_eq_true (by rw [h1, h2])).symm
theorem fSame23 : FnOk Try.prog 44 := ⟨_, Try.func44, by decide, rfl⟩
theorem pSame23 : PSound Try.prog 44 sSame23 := by
  refine psound (T := tab) (S := (spOf [(114, iEqX), (115, sSame1X.spec (lsOf []))])) (keep := k44) (by kernel_rfl) tabOk (spCons (.inl ⟨pEqX, fEqX⟩) (spCons (pOk pSame1X fSame1X (by decide) lsNil) spNil)) (by kernel_rfl) Try.func44 (by kernel_rfl) (by decide) fun xs hg hp => ?_
  obtain ⟨⟨nx, a⟩, ⟨nx2, b⟩, ⟨⟩⟩ := xs
  change Int at nx nx2
  change List Txn at a b
  have hp : a.length ≤ 1000 ∧ _ := hp
  obtain ⟨hp, -⟩ := hp
  clear hg
  show vfun tab _ k44 Try.f44 [.agg [.i .i64 nx, .sl TxnT a], .agg [.i .i64 nx2, .sl TxnT b]] [] _
  refine Ev.out ?_
  repeat' (first | ((with_reducible refine Ev.mk ?_); conv => whnf) | (with_reducible refine And.intro ?_ ?_) | (intro h))
  all_goals (try simp only [decide_eq_true_eq, decide_eq_false_iff_not, beq_iff_eq, bne_iff_ne, beq_eq_false_iff_ne, bne_eq_false_iff_eq, Int.toNat_natCast, ge_iff_le, gt_iff_lt, Bool.not_eq_true', Bool.not_eq_false', Int.not_lt, Int.not_le, ne_eq] at *)
  all_goals (try dsimp only [Ty.den, Ty.dflt, TxnT] at *)
  all_goals (try simp only [eq4, ne4, eq3, ne3, eq2, ne2, Prod.eta, List.length_cons, List.length_nil, List.length_append, Nat.zero_add] at *)
  all_goals (try simp (disch := omega) only [wrap64] at *)
  all_goals try first | exact leafDraw (by kernel_rfl) | exact Leaf.mk trivial | (refine Leaf.mk ?_; omega) | (refine Leaf.mk ?_; unfold maxLen; omega)
  all_goals first
    | exact Leaf.mk (ret1 (tab_ne1 ‹_›))
    | exact Leaf.mk (ret1 (tab_ne2 (by intro hc; exact absurd (congrArg (fun l => (List.length l : Int)) hc) ‹_›)))
    | skip
  refine LoopVC.on (fun i : Nat => [(17, .i .i64 i)]) (fun _ => []) (fun i => i ≤ a.length ∧ a.take i = b.take i) (fun i => a.length - i) 0 rfl ⟨by omega, by simp⟩ ?_
  intro i ⟨hi, he⟩
  repeat' (first | ((with_reducible refine Ev.mk ?_); conv => whnf) | (with_reducible refine And.intro ?_ ?_) | (intro h))
  all_goals (try simp only [decide_eq_true_eq, decide_eq_false_iff_not, beq_iff_eq, bne_iff_ne, beq_eq_false_iff_ne, bne_eq_false_iff_eq, Int.toNat_natCast, ge_iff_le, gt_iff_lt, Bool.not_eq_true', Bool.not_eq_false', Int.not_lt, Int.not_le, ne_eq] at *)
  all_goals (try dsimp only [Ty.den, Ty.dflt, TxnT] at *)
  all_goals (try simp only [eq4, ne4, eq3, ne3, eq2, ne2, Prod.eta, List.length_cons, List.length_nil, List.length_append, Nat.zero_add] at *)
  all_goals (try simp (disch := omega) only [wrap64] at *)
  all_goals try first | exact leafDraw (by kernel_rfl) | exact Leaf.mk trivial | (refine Leaf.mk ?_; omega) | (refine Leaf.mk ?_; unfold maxLen; omega)
  all_goals first
    | exact Leaf.mk (ret1 (tab_ne2 (same_not txn0 (of_decide_eq_false (show decide (a.getD i txn0 = b.getD i txn0) = false from ‹_›)))))
    | exact Leaf.mk ⟨i + 1, rfl, ⟨by omega, same_step txn0 (by omega) he (by omega) (of_decide_eq_true (show decide (a.getD i txn0 = b.getD i txn0) = true from ‹_›))⟩, by omega⟩
    | exact Leaf.mk (ret1 (tab_eq ‹_› (same_end (by omega) he (by omega))))
    | skip
theorem fSame23R : FnOk Try.prog 42 := ⟨_, Try.func42, by decide, rfl⟩
theorem pSame23R : PSound Try.prog 42 sSame23R := by
  refine psound (T := tab) (S := (spOf [(113, sSameTxn.spec (lsOf []))])) (keep := k42) (by kernel_rfl) tabOk (spCons (pOk pSameTxn fSameTxn (by decide) lsNil) spNil) (by kernel_rfl) Try.func42 (by kernel_rfl) (by decide) fun xs hg hp => ?_
  obtain ⟨⟨nx, a⟩, ⟨nx2, b⟩, ⟨⟩⟩ := xs
  change Int at nx nx2
  change List Txn at a b
  have hp : a.length ≤ 1000 ∧ _ := hp
  obtain ⟨hp, -⟩ := hp
  clear hg
  show vfun tab _ k42 Try.f42 [.agg [.i .i64 nx, .sl TxnT a], .agg [.i .i64 nx2, .sl TxnT b]] [] _
  refine Ev.out ?_
  repeat' (first | ((with_reducible refine Ev.mk ?_); conv => whnf) | (with_reducible refine And.intro ?_ ?_) | (intro h))
  all_goals (try simp only [decide_eq_true_eq, decide_eq_false_iff_not, beq_iff_eq, bne_iff_ne, beq_eq_false_iff_ne, bne_eq_false_iff_eq, Int.toNat_natCast, ge_iff_le, gt_iff_lt, Bool.not_eq_true', Bool.not_eq_false', Int.not_lt, Int.not_le, ne_eq] at *)
  all_goals (try dsimp only [Ty.den, Ty.dflt, TxnT] at *)
  all_goals (try simp only [eq4, ne4, eq3, ne3, eq2, ne2, Prod.eta, List.length_cons, List.length_nil, List.length_append, Nat.zero_add] at *)
  all_goals (try simp (disch := omega) only [wrap64] at *)
  all_goals try first | exact leafDraw (by kernel_rfl) | exact Leaf.mk trivial | (refine Leaf.mk ?_; omega) | (refine Leaf.mk ?_; unfold maxLen; omega)
  all_goals first
    | exact Leaf.mk (ret1 (tab_ne1 ‹_›))
    | exact Leaf.mk (ret1 (tab_ne2 (by intro hc; exact absurd (congrArg (fun l => (List.length l : Int)) hc) ‹_›)))
    | skip
  refine LoopVC.on (fun i : Nat => [(5, .i .i64 i)]) (fun _ => []) (fun i => i ≤ a.length ∧ a.take i = b.take i) (fun i => a.length - i) 0 rfl ⟨by omega, by simp⟩ ?_
  intro i ⟨hi, he⟩
  repeat' (first | ((with_reducible refine Ev.mk ?_); conv => whnf) | (with_reducible refine And.intro ?_ ?_) | (intro h))
  all_goals (try simp only [decide_eq_true_eq, decide_eq_false_iff_not, beq_iff_eq, bne_iff_ne, beq_eq_false_iff_ne, bne_eq_false_iff_eq, Int.toNat_natCast, ge_iff_le, gt_iff_lt, Bool.not_eq_true', Bool.not_eq_false', Int.not_lt, Int.not_le, ne_eq] at *)
  all_goals (try dsimp only [Ty.den, Ty.dflt, TxnT] at *)
  all_goals (try simp only [eq4, ne4, eq3, ne3, eq2, ne2, Prod.eta, List.length_cons, List.length_nil, List.length_append, Nat.zero_add] at *)
  all_goals (try simp (disch := omega) only [wrap64] at *)
  all_goals try first | exact leafDraw (by kernel_rfl) | exact Leaf.mk trivial | (refine Leaf.mk ?_; omega) | (refine Leaf.mk ?_; unfold maxLen; omega)
  all_goals first
    | exact Leaf.mk (ret1 (tab_ne2 (same_not txn0 (of_decide_eq_false (show decide (a.getD i txn0 = b.getD i txn0) = false from ‹_›)))))
    | exact Leaf.mk ⟨i + 1, rfl, ⟨by omega, same_step txn0 (by omega) he (by omega) (of_decide_eq_true (show decide (a.getD i txn0 = b.getD i txn0) = true from ‹_›))⟩, by omega⟩
    | exact Leaf.mk (ret1 (tab_eq ‹_› (same_end (by omega) he (by omega))))
    | skip
def sSmall23 : PSpec := ⟨[.d (.int .i64)], [⟨false, [.o 5 (.int .u8)]⟩], fun _ => True, fun x => ((putSmall (IntKind.u64.wrap x.1), ()), ())⟩
theorem fSmall23 : FnOk Try.prog 96 := ⟨_, Try.func96, by decide, rfl⟩
theorem pSmall23 : PSound Try.prog 96 sSmall23 := by
  refine psound (T := tab) (S := (spOf [(121, sPutSmallR.spec (lsOf []))])) (keep := k96) (by kernel_rfl) tabOk (spCons (pOk pPutSmallR fPutSmallR (by decide) lsNil) spNil) (by kernel_rfl) Try.func96 (by kernel_rfl) (by decide) fun xs hg hp => ?_
  obtain ⟨n, ⟨⟩⟩ := xs
  change Int at n
  show vfun tab _ k96 Try.f96 [.i .i64 n] [] _
  refine Ev.out ?_
  repeat' (first | ((with_reducible refine Ev.mk ?_); conv => whnf) | (with_reducible refine And.intro ?_ ?_) | (intro h))
  all_goals (try simp only [decide_eq_true_eq, decide_eq_false_iff_not, beq_iff_eq, bne_iff_ne, beq_eq_false_iff_ne, bne_eq_false_iff_eq, Int.toNat_natCast, ge_iff_le, gt_iff_lt, Bool.not_eq_true', Bool.not_eq_false', Int.not_lt, Int.not_le, ne_eq] at *)
  all_goals (try dsimp only [Ty.den, Ty.dflt, TxnT, sPutSmallR, sPutSmall] at *)
  all_goals (try simp only [eq4, ne4, eq3, ne3, eq2, ne2, Prod.eta, List.length_cons, List.length_nil, List.length_append, Nat.zero_add] at *)
  all_goals (try simp (disch := omega) only [wrap64] at *)
  all_goals try first | exact leafDraw (by kernel_rfl) | exact Leaf.mk trivial | (refine Leaf.mk ?_; omega) | (refine Leaf.mk ?_; unfold maxLen; omega)
  all_goals try exact Leaf.mk rfl
def lightX (x : Txn) : Bool := decide (x.2.2.length ≤ 12) && x.2.2.all fun k => decide (k.length ≤ 100)
def light23 (t : Tabl) : Bool := decide (t.2.length ≤ 12) && t.2.all lightX
def sLight23 : PSpec := ⟨[.d TabT], [⟨false, [.d .bool]⟩], fun _ => True, fun x => ((light23 x.1, ()), ())⟩
theorem light23_no {nx : Int} {l : List Txn} {i : Nat} (hi : i < l.length) (h : lightX (l.getD i txn0) = false) : false = light23 (nx, l) := by
  refine (Bool.eq_false_iff.2 fun hc => ?_).symm
  simp only [light23, Bool.and_eq_true, List.all_eq_true] at hc
  rw [hc.2 _ (getD_mem txn0 hi)] at h; cases h
theorem lightX_no {x : Txn} {k : Nat} (hk : k < x.2.2.length) (h : 100 < (x.2.2.getD k []).length) : lightX x = false := by
  refine Bool.eq_false_iff.2 fun hc => ?_
  simp only [lightX, Bool.and_eq_true, List.all_eq_true, decide_eq_true_eq] at hc
  have := hc.2 _ (getD_mem [] hk)
  omega
theorem fLight23 : FnOk Try.prog 33 := ⟨_, Try.func33, by decide, rfl⟩
theorem pLight23 : PSound Try.prog 33 sLight23 := by
  refine psound (T := tab) (S := (spOf [])) (keep := k33) (by kernel_rfl) tabOk spNil (by kernel_rfl) Try.func33 (by kernel_rfl) (by decide) fun xs hg hp => ?_
  obtain ⟨⟨nx, l⟩, ⟨⟩⟩ := xs
  obtain ⟨⟨-, hl, hgl⟩, -⟩ := hg
  change Int at nx
  change List Txn at l
  change l.length ≤ _ at hl
  have hl := len63 hl
  clear hp
  show vfun tab _ k33 Try.f33 [.agg [.i .i64 nx, .sl TxnT l]] [] _
  refine Ev.out ?_
  repeat' (first | ((with_reducible refine Ev.mk ?_); conv => whnf) | (with_reducible refine And.intro ?_ ?_) | (intro h))
  all_goals (try simp only [decide_eq_true_eq, decide_eq_false_iff_not, beq_iff_eq, bne_iff_ne, beq_eq_false_iff_ne, bne_eq_false_iff_eq, Int.toNat_natCast, ge_iff_le, gt_iff_lt, Bool.not_eq_true', Bool.not_eq_false', Int.not_lt, Int.not_le, ne_eq] at *)
  all_goals (try dsimp only [Ty.den, Ty.dflt, TxnT] at *)
  all_goals (try simp only [eq4, ne4, eq3, ne3, eq2, ne2, Prod.eta, List.length_cons, List.length_nil, List.length_append, Nat.zero_add] at *)
  all_goals (try simp (disch := omega) only [wrap64] at *)
  all_goals try first | exact leafDraw (by kernel_rfl) | exact Leaf.mk trivial | (refine Leaf.mk ?_; omega) | (refine Leaf.mk ?_; unfold maxLen; omega)
  · refine Leaf.mk (ret1 (show false = light23 (nx, l) from (Bool.eq_false_iff.2 fun hc => ?_).symm))
    simp only [light23, Bool.and_eq_true, decide_eq_true_eq] at hc
    omega
  have hks : ∀ j, j < l.length → (l.getD j (0, 0, [])).2.2.length ≤ 9223372036854775807 := fun j hj => len63 (hgl _ (getD_mem txn0 hj)).2.2.1
  refine LoopVC.on (fun i : Nat => [(3, .i .i64 i)]) (fun _ => []) (fun i => i ≤ l.length ∧ ∀ j, j < i → lightX (l.getD j txn0) = true) (fun i => l.length - i) 0 rfl ⟨by omega, fun j hj => by omega⟩ ?_
  intro i ⟨hi, ha⟩
  repeat' (first | ((with_reducible refine Ev.mk ?_); conv => whnf) | (with_reducible refine And.intro ?_ ?_) | (intro h))
  all_goals (try simp only [decide_eq_true_eq, decide_eq_false_iff_not, beq_iff_eq, bne_iff_ne, beq_eq_false_iff_ne, bne_eq_false_iff_eq, Int.toNat_natCast, ge_iff_le, gt_iff_lt, Bool.not_eq_true', Bool.not_eq_false', Int.not_lt, Int.not_le, ne_eq] at *)
  all_goals (try dsimp only [Ty.den, Ty.dflt, TxnT] at *)
  all_goals (try simp only [eq4, ne4, eq3, ne3, eq2, ne2, Prod.eta, List.length_cons, List.length_nil, List.length_append, Nat.zero_add] at *)
  all_goals (try simp (disch := omega) only [wrap64] at *)
  all_goals try first | exact leafDraw (by kernel_rfl) | exact Leaf.mk trivial | (refine Leaf.mk ?_; omega) | (refine Leaf.mk ?_; unfold maxLen; omega)
  · refine Leaf.mk (ret1 (show false = light23 (nx, l) from light23_no (i := i) (by omega) ?_))
    rw [lightX, decide_eq_false (show ¬ (l.getD i (0, 0, [])).2.2.length ≤ 12 by omega)]; rfl
  rotate_left
  · refine Leaf.mk (ret1 (show true = light23 (nx, l) from ?_))
    rw [light23, decide_eq_true (show l.length ≤ 12 by omega), Bool.true_and, eq_comm, List.all_eq_true]
    intro x hx
    obtain ⟨j, hj, rfl⟩ := List.mem_iff_getElem.1 hx
    have hj : j < l.length := hj
    have := ha j (by omega)
    rwa [List.getD_eq_getElem?_getD, List.getElem?_eq_getElem hj] at this
  have hki := hks i (by omega)
  refine LoopVC.on (fun k : Nat => [(4, .i .i64 k)]) (fun _ => []) (fun k => k ≤ (l.getD i (0, 0, [])).2.2.length ∧ ∀ j, j < k → ((l.getD i (0, 0, [])).2.2.getD j []).length ≤ 100) (fun k => (l.getD i (0, 0, [])).2.2.length - k) 0 rfl ⟨by omega, fun j hj => by omega⟩ ?_
  intro k ⟨hk, hb⟩
  repeat' (first | ((with_reducible refine Ev.mk ?_); conv => whnf) | (with_reducible refine And.intro ?_ ?_) | (intro h))
  all_goals (try simp only [decide_eq_true_eq, decide_eq_false_iff_not, beq_iff_eq, bne_iff_ne, beq_eq_false_iff_ne, bne_eq_false_iff_eq, Int.toNat_natCast, ge_iff_le, gt_iff_lt, Bool.not_eq_true', Bool.not_eq_false', Int.not_lt, Int.not_le, ne_eq] at *)
  all_goals (try dsimp only [Ty.den, Ty.dflt, TxnT] at *)
  all_goals (try simp only [eq4, ne4, eq3, ne3, eq2, ne2, Prod.eta, List.length_cons, List.length_nil, List.length_append, Nat.zero_add] at *)
  all_goals (try simp (disch := omega) only [wrap64] at *)
  all_goals try first | exact leafDraw (by kernel_rfl) | exact Leaf.mk trivial | (refine Leaf.mk ?_; omega) | (refine Leaf.mk ?_; unfold maxLen; omega)
  · exact Leaf.mk (ret1 (show false = light23 (nx, l) from light23_no (i := i) (by omega) (lightX_no (k := k) (by dsimp only [txn0]; omega) (by dsimp only [txn0]; omega))))
  · refine Leaf.mk (Exists.intro (k + 1) ⟨rfl, ⟨by omega, fun j hj => ?_⟩, by omega⟩)
    rcases Nat.lt_or_ge j k with h9 | h9
    · exact hb j h9
    · obtain rfl : j = k := by omega
      omega
  · refine Leaf.mk (Exists.intro (i + 1) ⟨rfl, ⟨by omega, fun j hj => ?_⟩, by omega⟩)
    rcases Nat.lt_or_ge j i with h9 | h9
    · exact ha j h9
    · obtain rfl : j = i := by omega
      rw [lightX, decide_eq_true (show (l.getD j (0, 0, [])).2.2.length ≤ 12 by omega), Bool.true_and, List.all_eq_true]
      intro x hx
      obtain ⟨k', hk', rfl⟩ := List.mem_iff_getElem.1 hx
      have := hb k' (by dsimp only [txn0] at hk'; omega)
      rw [decide_eq_true_eq]
      rwa [List.getD_eq_getElem?_getD, List.getElem?_eq_getElem hk'] at this
def sPut23R : PSpec := sPut23
theorem fPut23R : FnOk Try.prog 37 := ⟨_, Try.func37, by decide, rfl⟩
theorem pPut23R : PSound Try.prog 37 sPut23R := by
  refine psound (T := tab) (S := (spOf [(41, sCheck23R.spec (lsOf [])), (96, sSmall23.spec (lsOf [])), (97, sPutTextR.spec (lsOf []))])) (keep := k37) (by kernel_rfl) tabOk (spCons (pOk pCheck23R fCheck23R (by decide) lsNil) (spCons (pOk pSmall23 fSmall23 (by decide) lsNil) (spCons (pOk pPutTextR fPutTextR (by decide) lsNil) spNil))) (by kernel_rfl) Try.func37 (by kernel_rfl) (by decide) fun xs hg hp => ?_
  obtain ⟨⟨nx, l⟩, ⟨⟩⟩ := xs
  change List Txn at l
  change Int at nx
  change l.length ≤ 1000 ∧ ∀ x ∈ l, List.length x.2.2 ≤ 1000 at hp
  obtain ⟨-, hk⟩ := hp
  clear hg
  show vfun tab _ k37 Try.f37 [.agg [.i .i64 nx, .sl TxnT l]] [] _
  refine Ev.out ?_
  repeat' (first | ((with_reducible refine Ev.mk ?_); conv => whnf) | (with_reducible refine And.intro ?_ ?_) | (intro h))
  all_goals (try simp only [decide_eq_true_eq, decide_eq_false_iff_not, beq_iff_eq, bne_iff_ne, beq_eq_false_iff_ne, bne_eq_false_iff_eq, Int.toNat_natCast, ge_iff_le, gt_iff_lt, Bool.not_eq_true', Bool.not_eq_false', Int.not_lt, Int.not_le, ne_eq] at *)
  all_goals (try dsimp only [Ty.den, Ty.dflt, TxnT, sCheck23R, sCheck23, sPutTextR, sPutText, sSmall23] at *)
  all_goals (try simp only [eq4, ne4, eq3, ne3, eq2, ne2, Prod.eta, List.length_cons, List.length_nil, List.length_append, Nat.zero_add] at *)
  all_goals (try simp (disch := omega) only [wrap64] at *)
  all_goals try first | exact leafDraw (by kernel_rfl) | exact Leaf.mk trivial | (refine Leaf.mk ?_; omega) | (refine Leaf.mk ?_; unfold maxLen; omega)
  · exact Leaf.mk (retPT (u := ([], check23 (nx, l))) (if_neg h).symm)
  all_goals
    have h' : check23 (nx, l) = 0 := by assumption
    have ok := check23_ok.1 h'
    have hnx := ok.next
    have hl8 := ok.len
    dsimp only at hnx hl8
    have hw1 : IntKind.u64.wrap nx = nx := wrapu hnx
    have hw2 : IntKind.u64.wrap (l.length : Int) = (l.length : Int) := wrapu (by omega)
    have hs := fun n => putSmall_len n
    have hs1 := hs nx
    have hs2 := hs l.length
    rw [hw1, hw2]
  · exact Leaf.mk (by omega)
  · exact Leaf.mk (by unfold maxLen; omega)
  have hxa : ∀ j, j < l.length → TxOk nx (l.getD j txn0) ∧ (l.getD j txn0).2.2.length ≤ 1000 := fun j hj => ⟨ok.all _ (getD_mem txn0 hj), hk _ (getD_mem txn0 hj)⟩
  refine LoopVC.weak [] (fun j : Nat => [(6, .i .i64 j)]) (fun j => [(1, .arr 5 (.int .u8) (putSmall nx ++ (putSmall l.length ++ (l.take j).flatMap putX)))]) (fun j => j ≤ l.length) (fun j => l.length - j) 0 (Ev.mk ?_)
  (conv => whnf)
  refine ⟨Leaf.mk ?_, Leaf.mk ?_, ?_⟩
  · simp only [List.take_zero, List.flatMap_nil, List.append_nil]; rfl
  · omega
  intro j hj
  repeat' (first | ((with_reducible refine Ev.mk ?_); conv => whnf) | (with_reducible refine And.intro ?_ ?_) | (intro h))
  all_goals (try simp only [decide_eq_true_eq, decide_eq_false_iff_not, beq_iff_eq, bne_iff_ne, beq_eq_false_iff_ne, bne_eq_false_iff_eq, Int.toNat_natCast, ge_iff_le, gt_iff_lt, Bool.not_eq_true', Bool.not_eq_false', Int.not_lt, Int.not_le, ne_eq] at *)
  all_goals (try dsimp only [Ty.den, Ty.dflt, TxnT, sSmall23] at *)
  all_goals (try simp only [eq4, ne4, eq3, ne3, eq2, ne2, Prod.eta, List.length_cons, List.length_nil, List.length_append, Nat.zero_add] at *)
  all_goals (try simp (disch := omega) only [wrap64] at *)
  all_goals try first | exact leafDraw (by kernel_rfl) | exact Leaf.mk trivial | (refine Leaf.mk ?_; omega) | (refine Leaf.mk ?_; unfold maxLen; omega)
  rotate_right 1
  · refine Leaf.mk (retPT (u := (putSmall nx ++ (putSmall l.length ++ (l.take j).flatMap putX), 0)) (v := putTF (nx, l)) ?_)
    rw [putTF, if_pos h', List.take_of_length_le (by omega)]; rfl
  all_goals
    obtain ⟨hxo, hxk⟩ := hxa j (by omega)
    have hid := hxo.id
    have hst := hxo.st
    have hkl := hxo.keys
    have hw3 : IntKind.u64.wrap (l.getD j (0, 0, [])).1 = (l.getD j (0, 0, [])).1 := wrapu hid
    have hw4 : IntKind.u64.wrap (l.getD j (0, 0, [])).2.1 = (l.getD j (0, 0, [])).2.1 := wrapu hst
    dsimp only [txn0] at hxk
    have hw5 : IntKind.u64.wrap ((l.getD j (0, 0, [])).2.2.length : Int) = ((l.getD j (0, 0, [])).2.2.length : Int) := wrapu (by omega)
    have hB : (putSmall nx).length + ((putSmall l.length).length + ((l.take j).flatMap putX).length) ≤ 300000 := by
      have h1 := hs nx
      have h2 := hs l.length
      have h3 := flat_lenX (f := putX) (m := 34027) (l := l.take j) fun x hx => putX_len (ok.all x (List.mem_of_mem_take hx)) (hk x (List.mem_of_mem_take hx))
      have h4 := List.length_take_le' j l
      omega
    have hat : (l.take (j + 1)).flatMap putX = (l.take j).flatMap putX ++ putX (l.getD j (0, 0, [])) := flatMap_at txn0 (by omega)
    try simp only [hw3, hw4, hw5]
    have q1 := hs (l.getD j (0, 0, [])).1
    have q2 := hs (l.getD j (0, 0, [])).2.1
    have q3 := hs (l.getD j (0, 0, [])).2.2.length
    try first
    | (refine Leaf.mk ?_; omega)
    | (refine Leaf.mk ?_; unfold maxLen; omega)
  clear hid hst
  have hB : (putSmall nx ++ (putSmall l.length ++ (l.take j).flatMap putX)).length ≤ 300000 := by simp only [List.length_append]; omega
  generalize hBe : putSmall nx ++ (putSmall l.length ++ (l.take j).flatMap putX) = B at *
  generalize hxe : l.getD j (0, 0, []) = x at *
  obtain ⟨id, st, ks⟩ := x
  dsimp only at *
  have hC : (B ++ putSmall id ++ putSmall st ++ putSmall ks.length).length ≤ 300027 := by
    simp only [List.length_append]; omega
  have hX : B ++ putX (id, st, ks) = B ++ putSmall id ++ putSmall st ++ putSmall ks.length ++ ks.flatMap putText := by simp only [putX, List.append_assoc]
  have hN : putSmall nx ++ (putSmall l.length ++ (l.take (j + 1)).flatMap putX) = B ++ putX (id, st, ks) := by rw [hat, ← hBe]; simp only [List.append_assoc]
  generalize B ++ putSmall id ++ putSmall st ++ putSmall ks.length = D at *
  refine LoopVC.weak [] (fun k : Nat => [(8, .i .i64 k)]) (fun k => [(1, .arr 5 (.int .u8) (D ++ (ks.take k).flatMap putText))]) (fun k => k ≤ ks.length) (fun k => ks.length - k) 0 (Ev.mk ?_)
  (conv => whnf)
  refine ⟨Leaf.mk ?_, Leaf.mk ?_, ?_⟩
  · simp only [List.take_zero, List.flatMap_nil, List.append_nil]; rfl
  · omega
  intro k hkk
  have hfl := keys_len (ks := ks.take k) fun x hx => hkl x (List.mem_of_mem_take hx)
  have hlt := List.length_take_le' k ks
  repeat' (first | ((with_reducible refine Ev.mk ?_); conv => whnf) | (with_reducible refine And.intro ?_ ?_) | (intro h))
  all_goals (try simp only [decide_eq_true_eq, decide_eq_false_iff_not, beq_iff_eq, bne_iff_ne, beq_eq_false_iff_ne, bne_eq_false_iff_eq, Int.toNat_natCast, ge_iff_le, gt_iff_lt, Bool.not_eq_true', Bool.not_eq_false', Int.not_lt, Int.not_le, ne_eq] at *)
  all_goals (try dsimp only [Ty.den, Ty.dflt, TxnT, sPutText, sPutTextR] at *)
  all_goals (try simp only [eq4, ne4, eq3, ne3, eq2, ne2, Prod.eta, List.length_cons, List.length_nil, List.length_append, Nat.zero_add] at *)
  all_goals (try simp (disch := omega) only [wrap64] at *)
  all_goals try first | exact leafDraw (by kernel_rfl) | exact Leaf.mk trivial | (refine Leaf.mk ?_; omega) | (refine Leaf.mk ?_; unfold maxLen; omega)
  all_goals try
    have hk1 : (ks.getD k []).length ≤ 16 := hkl _ (getD_mem [] (by omega))
    have hk2 := putText_len (ks.getD k [])
    have hk3 : (ks.take (k + 1)).flatMap putText = (ks.take k).flatMap putText ++ putText (ks.getD k []) := flatMap_at [] (by omega)
    first
    | (refine Leaf.mk ?_; omega)
    | (refine Leaf.mk ?_; unfold maxLen; omega)
    | (refine Leaf.mk (Exists.intro (k + 1) ⟨?_, by omega, by omega⟩)
       rw [hk3, ← List.append_assoc]; rfl)
  refine Leaf.mk (Exists.intro (j + 1) ⟨?_, by omega, by omega⟩)
  rw [hN, hX, List.take_of_length_le (by omega)]; rfl
end Go.Proofs.Ytlfehkoklgmjjaa

set_option linter.unusedVariables false
set_option linter.unusedSimpArgs false
namespace Go.Proofs.Ytlfehkoklgmjjaa
open Go.Eng
def rel (me at' : Int) (v : Ver) : Bool := pend me v || okTs at' v
end Go.Proofs.Ytlfehkoklgmjjaa

set_option linter.unusedVariables false
set_option linter.unusedSimpArgs false
set_option maxRecDepth 8000
set_option maxHeartbeats 4000000
namespace Go.Proofs.Ytlfehkoklgmjjaa
open Go.Eng
theorem rdSmall_suf (b : List Int) (e : Int) : (rdSmall b e).2.1 <:+ b := by
  unfold rdSmall
  repeat' split
  all_goals first | exact List.suffix_refl _ | exact List.drop_suffix _ _
theorem rdText_suf (b : List Int) (e m : Int) : (rdText b e m).2.1 <:+ b := by
  unfold rdText
  generalize (if 0 < m then m else 0) = mm
  repeat' split
  all_goals first | exact List.suffix_refl _ | exact List.drop_suffix _ _
theorem suf_len {a b : List Int} (h : a <:+ b) : a.length ≤ b.length := h.length_le
end Go.Proofs.Ytlfehkoklgmjjaa

set_option linter.unusedVariables false
set_option linter.unusedSimpArgs false
set_option maxRecDepth 8000
set_option maxHeartbeats 4000000
namespace Go.Proofs.Ytlfehkoklgmjjaa
open Go.Eng
def decK : Nat → List Int → Int → List (List UInt8) × List Int × Int
  | 0, b, e => ([], b, e)
  | n + 1, b, e =>
    let x := rdText b e 16
    let y := decK n x.2.1 x.2.2
    (x.1 :: y.1, y.2)
def decX (b : List Int) (e : Int) : Txn × List Int × Int :=
  let i := rdSmall b e
  let s := rdSmall i.2.1 i.2.2
  let n := rdSmall s.2.1 s.2.2
  let y := decK n.1.toNat n.2.1 n.2.2
  ((i.1, s.1, y.1), y.2)
def decL : Nat → List Int → Int → List Txn × List Int × Int
  | 0, b, e => ([], b, e)
  | n + 1, b, e =>
    let x := decX b e
    let y := decL n x.2.1 x.2.2
    (x.1 :: y.1, y.2)
def decT (b : List Int) : Tabl :=
  let n := rdSmall b 0
  let m := rdSmall n.2.1 n.2.2
  (n.1, (decL m.1.toNat m.2.1 m.2.2).1)
def getT (b : List Int) : Tabl × Int := if check23 (decT b) = 0 ∧ putT (decT b) = b then (decT b, 0) else ((0, []), 4)
theorem decK_put (r : List Int) : ∀ (ks : List (List UInt8)), (∀ k ∈ ks, k.length ≤ 16) → decK ks.length (ks.flatMap putText ++ r) 0 = (ks, r, 0)
  | [], _ => rfl
  | k :: ks, h => by
    have h1 : k.length ≤ 16 := h k List.mem_cons_self
    have e : rdText (putText k ++ (ks.flatMap putText ++ r)) 0 16 = (k, ks.flatMap putText ++ r, 0) := rdText_put (by omega) _
    rw [List.length_cons, List.flatMap_cons, List.append_assoc, decK, e]
    dsimp only
    rw [decK_put r ks fun x hx => h x (List.mem_cons_of_mem _ hx)]
theorem keys_ge : ∀ (ks : List (List UInt8)), ks.length ≤ (ks.flatMap putText).length
  | [] => by simp
  | k :: ks => by
    have := keys_ge ks
    rw [List.flatMap_cons, List.length_append, List.length_cons]
    have h2 : 1 ≤ (putText k).length := by simp [putText, putB]
    omega
theorem decX_put {nx : Int} {x : Txn} (h : TxOk nx x) (hk : x.2.2.length ≤ 1000000) (r : List Int) : decX (putX x ++ r) 0 = (x, r, 0) := by
  unfold decX putX
  simp only [List.append_assoc]
  rw [rdSmall_put h.id.1 h.id.2]
  dsimp only
  rw [rdSmall_put h.st.1 h.st.2]
  dsimp only
  rw [rdSmall_put (n := (x.2.2.length : Int)) (by omega) (by omega)]
  dsimp only
  rw [Int.toNat_natCast, decK_put r _ h.keys]
theorem decL_put {nx : Int} (r : List Int) : ∀ (l : List Txn), (∀ x ∈ l, TxOk nx x ∧ x.2.2.length ≤ 1000000) → decL l.length (l.flatMap putX ++ r) 0 = (l, r, 0)
  | [], _ => rfl
  | x :: l, h => by
    obtain ⟨h1, h2⟩ := h x List.mem_cons_self
    rw [List.length_cons, List.flatMap_cons, List.append_assoc, decL, decX_put h1 h2]
    dsimp only
    rw [decL_put r l fun y hy => h y (List.mem_cons_of_mem _ hy)]
theorem keys_in {t : Tabl} {x : Txn} (h : x ∈ t.2) : x.2.2.length ≤ (putT t).length := by
  have h1 : (putX x).length ≤ (t.2.flatMap putX).length := by
    obtain ⟨a, b, e⟩ := List.append_of_mem h
    rw [e, List.flatMap_append, List.flatMap_cons]
    simp only [List.length_append]; omega
  have h2 := keys_ge x.2.2
  simp only [putT, putX, List.length_append] at h1 ⊢
  omega
theorem decT_put {t : Tabl} (h : check23 t = 0) (hb : (putT t).length ≤ 1000000) : decT (putT t) = t := by
  have ok := check23_ok.1 h
  have hl := ok.len
  unfold decT
  have e1 : rdSmall (putT t) 0 = (t.1, putSmall t.2.length ++ t.2.flatMap putX, 0) := rdSmall_put ok.next.1 ok.next.2 _
  have e2 : rdSmall (putSmall (t.2.length : Int) ++ t.2.flatMap putX) 0 = ((t.2.length : Int), t.2.flatMap putX, 0) := rdSmall_put (by omega) (by omega) _
  have e3 := decL_put (nx := t.1) [] t.2 fun x hx => ⟨ok.all x hx, Nat.le_trans (keys_in hx) hb⟩
  rw [List.append_nil] at e3
  rw [e1]
  dsimp only
  rw [e2]
  dsimp only
  rw [Int.toNat_natCast, e3]
theorem getT_put {t : Tabl} {b : List Int} (h : check23 t = 0) (hb : putT t = b) (hl : b.length ≤ 1000000) : getT b = (t, 0) := by
  have := decT_put h (by rw [hb]; exact hl)
  rw [hb] at this
  rw [getT, this, if_pos ⟨h, hb⟩]
theorem getT_not {b : List Int} (h : ∀ t, check23 t = 0 → putT t = b → False) : getT b = ((0, []), 4) := if_neg fun hc => h _ hc.1 hc.2
def sOwnL23 : PSpec := ⟨[.d TabT], [⟨true, [.d TabT]⟩], fun x => okT x.1, fun x => ((x.1, ()), ())⟩
def sBackL23 : PSpec := sOwnL23
theorem fOwnL23 : FnOk Try.prog 36 := ⟨_, Try.func36, by decide, rfl⟩
theorem pOwnL23 : PSound Try.prog 36 sOwnL23 := by
  refine psound (T := tab) (S := (spOf [])) (keep := k36) (by kernel_rfl) tabOk spNil (by kernel_rfl) Try.func36 (by kernel_rfl) (by decide) fun xs hg hp => ?_
  obtain ⟨⟨nx, l⟩, ⟨⟩⟩ := xs
  change Int at nx
  change List Txn at l
  change l.length ≤ 1000 ∧ ∀ x ∈ l, List.length x.2.2 ≤ 1000 at hp
  obtain ⟨hl, hk⟩ := hp
  clear hg
  show vfun tab _ k36 Try.f36 [.agg [.i .i64 nx, .sl TxnT l]] [] _
  refine Ev.out ?_
  repeat' (first | ((with_reducible refine Ev.mk ?_); conv => whnf) | (with_reducible refine And.intro ?_ ?_) | (intro h))
  all_goals (try simp only [decide_eq_true_eq, decide_eq_false_iff_not, beq_iff_eq, bne_iff_ne, beq_eq_false_iff_ne, bne_eq_false_iff_eq, Int.toNat_natCast, ge_iff_le, gt_iff_lt, Bool.not_eq_true', Bool.not_eq_false', Int.not_lt, Int.not_le, ne_eq] at *)
  all_goals (try dsimp only [Ty.den, Ty.dflt, TxnT] at *)
  all_goals (try simp only [eq4, ne4, eq3, ne3, eq2, ne2, Prod.eta, List.length_cons, List.length_nil, List.length_append, Nat.zero_add] at *)
  all_goals (try simp (disch := omega) only [wrap64] at *)
  all_goals try first | exact leafDraw (by kernel_rfl) | exact Leaf.mk trivial | (refine Leaf.mk ?_; omega) | (refine Leaf.mk ?_; unfold maxLen; omega)
  refine LoopVC.weak [(.cell 2 1, .nil 144 TxnT)] (fun i : Nat => [(4, .i .i64 i)]) (fun i => [(3, .arr 144 TxnT (l.take i))]) (fun i => i ≤ l.length) (fun i => l.length - i) 0 (Ev.mk ?_)
  (conv => whnf)
  refine ⟨Leaf.mk ?_, Leaf.mk ?_, ?_⟩
  · rfl
  · omega
  intro i hi
  have hki : i < l.length → (l.getD i (0, 0, [])).2.2.length ≤ 1000 := fun h => hk _ (getD_mem txn0 h)
  have htl : (l.take i).length = i := by rw [List.length_take]; omega
  repeat' (first | ((with_reducible refine Ev.mk ?_); conv => whnf) | (with_reducible refine And.intro ?_ ?_) | (intro h))
  all_goals (try simp only [decide_eq_true_eq, decide_eq_false_iff_not, beq_iff_eq, bne_iff_ne, beq_eq_false_iff_ne, bne_eq_false_iff_eq, Int.toNat_natCast, ge_iff_le, gt_iff_lt, Bool.not_eq_true', Bool.not_eq_false', Int.not_lt, Int.not_le, ne_eq] at *)
  all_goals (try dsimp only [Ty.den, Ty.dflt, TxnT] at *)
  all_goals (try simp only [eq4, ne4, eq3, ne3, eq2, ne2, Prod.eta, List.length_cons, List.length_nil, List.length_append, Nat.zero_add] at *)
  all_goals (try simp (disch := omega) only [wrap64] at *)
  all_goals try first | exact leafDraw (by kernel_rfl) | exact Leaf.mk trivial | (refine Leaf.mk ?_; omega) | (refine Leaf.mk ?_; unfold maxLen; omega)
  all_goals first
    | (refine Leaf.mk ?_; rw [htl]; omega)
    | (refine Leaf.mk ?_; rw [htl]; unfold maxLen; omega)
    | (refine Leaf.mk ?_; have := hki (by omega); omega)
    | (refine Leaf.mk ?_; have := hki (by omega); unfold maxLen; omega)
    | (have e := take_at txn0 (xs := l) (i := i) (by omega)
       refine Leaf.mk (Exists.intro (i + 1) ⟨?_, by omega, by omega⟩)
       rw [e]; rfl)
    | (refine Leaf.mk (ret1 (show ((nx, l.take i) : Tabl) = (nx, l) from ?_))
       rw [List.take_of_length_le (by omega)])
    | skip
theorem fBackL23 : FnOk Try.prog 43 := ⟨_, Try.func43, by decide, rfl⟩
theorem pBackL23 : PSound Try.prog 43 sBackL23 := by
  refine psound (T := tab) (S := (spOf [])) (keep := k43) (by kernel_rfl) tabOk spNil (by kernel_rfl) Try.func43 (by kernel_rfl) (by decide) fun xs hg hp => ?_
  obtain ⟨⟨nx, l⟩, ⟨⟩⟩ := xs
  change Int at nx
  change List Txn at l
  change l.length ≤ 1000 ∧ ∀ x ∈ l, List.length x.2.2 ≤ 1000 at hp
  obtain ⟨hl, hk⟩ := hp
  clear hg
  show vfun tab _ k43 Try.f43 [.agg [.i .i64 nx, .sl TxnT l]] [] _
  refine Ev.out ?_
  repeat' (first | ((with_reducible refine Ev.mk ?_); conv => whnf) | (with_reducible refine And.intro ?_ ?_) | (intro h))
  all_goals (try simp only [decide_eq_true_eq, decide_eq_false_iff_not, beq_iff_eq, bne_iff_ne, beq_eq_false_iff_ne, bne_eq_false_iff_eq, Int.toNat_natCast, ge_iff_le, gt_iff_lt, Bool.not_eq_true', Bool.not_eq_false', Int.not_lt, Int.not_le, ne_eq] at *)
  all_goals (try dsimp only [Ty.den, Ty.dflt, TxnT] at *)
  all_goals (try simp only [eq4, ne4, eq3, ne3, eq2, ne2, Prod.eta, List.length_cons, List.length_nil, List.length_append, Nat.zero_add] at *)
  all_goals (try simp (disch := omega) only [wrap64] at *)
  all_goals try first | exact leafDraw (by kernel_rfl) | exact Leaf.mk trivial | (refine Leaf.mk ?_; omega) | (refine Leaf.mk ?_; unfold maxLen; omega)
  refine LoopVC.weak [(.cell 2 1, .nil 139 TxnT)] (fun i : Nat => [(4, .i .i64 i)]) (fun i => [(3, .arr 139 TxnT (l.take i))]) (fun i => i ≤ l.length) (fun i => l.length - i) 0 (Ev.mk ?_)
  (conv => whnf)
  refine ⟨Leaf.mk ?_, Leaf.mk ?_, ?_⟩
  · rfl
  · omega
  intro i hi
  have hki : i < l.length → (l.getD i (0, 0, [])).2.2.length ≤ 1000 := fun h => hk _ (getD_mem txn0 h)
  have htl : (l.take i).length = i := by rw [List.length_take]; omega
  repeat' (first | ((with_reducible refine Ev.mk ?_); conv => whnf) | (with_reducible refine And.intro ?_ ?_) | (intro h))
  all_goals (try simp only [decide_eq_true_eq, decide_eq_false_iff_not, beq_iff_eq, bne_iff_ne, beq_eq_false_iff_ne, bne_eq_false_iff_eq, Int.toNat_natCast, ge_iff_le, gt_iff_lt, Bool.not_eq_true', Bool.not_eq_false', Int.not_lt, Int.not_le, ne_eq] at *)
  all_goals (try dsimp only [Ty.den, Ty.dflt, TxnT] at *)
  all_goals (try simp only [eq4, ne4, eq3, ne3, eq2, ne2, Prod.eta, List.length_cons, List.length_nil, List.length_append, Nat.zero_add] at *)
  all_goals (try simp (disch := omega) only [wrap64] at *)
  all_goals try first | exact leafDraw (by kernel_rfl) | exact Leaf.mk trivial | (refine Leaf.mk ?_; omega) | (refine Leaf.mk ?_; unfold maxLen; omega)
  all_goals first
    | (refine Leaf.mk ?_; rw [htl]; omega)
    | (refine Leaf.mk ?_; rw [htl]; unfold maxLen; omega)
    | (refine Leaf.mk ?_; have := hki (by omega); omega)
    | (refine Leaf.mk ?_; have := hki (by omega); unfold maxLen; omega)
    | (have e := take_at txn0 (xs := l) (i := i) (by omega)
       refine Leaf.mk (Exists.intro (i + 1) ⟨?_, by omega, by omega⟩)
       rw [e]; rfl)
    | (refine Leaf.mk (ret1 (show ((nx, l.take i) : Tabl) = (nx, l) from ?_))
       rw [List.take_of_length_le (by omega)])
    | skip
end Go.Proofs.Ytlfehkoklgmjjaa

set_option linter.unusedVariables false
set_option linter.unusedSimpArgs false
set_option maxRecDepth 8000
set_option maxHeartbeats 8000000
namespace Go.Proofs.Ytlfehkoklgmjjaa
open Go.Eng
def sGet23 : PSpec := ⟨[.d BT], [⟨true, [.d TabT]⟩, ⟨false, [.d (.int .i64)]⟩], fun x => List.length (α := Int) x.1 ≤ 900, fun x => (((getT x.1).1, ()), ((getT x.1).2, ()), ())⟩
def sGet23R : PSpec := sGet23
theorem isB_T (t : Tabl) : isB (putT t) := by
  unfold putT
  refine isB_append (isB_small _) (isB_append (isB_small _) fun z hz => ?_)
  obtain ⟨x, -, hz⟩ := List.mem_flatMap.1 hz
  refine isB_append (isB_small _) (isB_append (isB_small _) (isB_append (isB_small _) fun z hz => ?_)) z hz
  obtain ⟨k, -, hz⟩ := List.mem_flatMap.1 hz
  exact isB_put k z hz
theorem retGT {u v : Tabl × Int} (h : u = v) : (some ((u.1, ()), (u.2, ()), ()) : Option ((Tabl × Unit) × (Int × Unit) × Unit)) = some ((v.1, ()), (v.2, ()), ()) := by rw [h]
theorem fGet23 : FnOk Try.prog 38 := ⟨_, Try.func38, by decide, rfl⟩
theorem pGet23 : PSound Try.prog 38 sGet23 := by
  refine psound (T := tab) (S := (spOf [(98, sNew.spec (lsOf [])), (101, sText.spec), (99, sSmall.spec), (100, sLeft.spec), (35, sPut23.spec (lsOf [])), (102, sBEqual.spec (lsOf []))])) (keep := k38) (by kernel_rfl) tabOk (spCons (.inl ⟨nOk lsNil pNew, fNew⟩) (spCons (.inl ⟨pText, fText⟩) (spCons (.inl ⟨pSmall, fSmall⟩) (spCons (.inl ⟨pLeft, fLeft⟩) (spCons (pOk pPut23 fPut23 (by decide) lsNil) (spCons (pOk pBEqual fBEqual (by decide) lsNil) spNil)))))) (by kernel_rfl) Try.func38 (by kernel_rfl) (by decide) fun xs hg hp => ?_
  obtain ⟨b, ⟨⟩⟩ := xs
  obtain ⟨⟨-, hx⟩, -⟩ := hg
  change List Int at b
  change b.length ≤ 900 at hp
  have hB : isB b := isB_good hx
  clear hx
  have hb1 := rdSmall_suf b 0
  have hb2 := rdSmall_suf (rdSmall b 0).2.1 (rdSmall b 0).2.2
  have hl1 := suf_len hb1
  have hl2 := suf_len hb2
  show vfun tab _ k38 Try.f38 [.sl (.int .u8) b] [] _
  refine Ev.out ?_
  repeat' (first | ((with_reducible refine Ev.mk ?_); conv => whnf) | (with_reducible refine And.intro ?_ ?_) | (intro h))
  all_goals (try simp only [decide_eq_true_eq, decide_eq_false_iff_not, beq_iff_eq, bne_iff_ne, beq_eq_false_iff_ne, bne_eq_false_iff_eq, Int.toNat_natCast, ge_iff_le, gt_iff_lt, Bool.not_eq_true', Bool.not_eq_false', Int.not_lt, Int.not_le, ne_eq] at *)
  all_goals (try dsimp only [Ty.den, Ty.dflt, TxnT, sNew, sText, sSmall] at *)
  all_goals (try simp only [eq4, ne4, eq3, ne3, eq2, ne2, Prod.eta, List.length_cons, List.length_nil, List.length_append, Nat.zero_add] at *)
  all_goals (try simp (disch := omega) only [wrap64] at *)
  all_goals try first | exact leafDraw (by kernel_rfl) | exact Leaf.mk trivial | (refine Leaf.mk ?_; omega) | (refine Leaf.mk ?_; unfold maxLen; omega)
  generalize hN : (if 9 < (rdSmall (rdSmall b 0).2.1 (rdSmall b 0).2.2).1 then 9 else (rdSmall (rdSmall b 0).2.1 (rdSmall b 0).2.2).1) = N
  have hN9 : N ≤ 9 := by rw [← hN]; split <;> omega
  generalize hnx : (rdSmall b 0).1 = nx
  generalize hb0 : (rdSmall (rdSmall b 0).2.1 (rdSmall b 0).2.2).2.1 = b0 at *
  generalize he0 : (rdSmall (rdSmall b 0).2.1 (rdSmall b 0).2.2).2.2 = e0
  have h0 : ∀ s, check23 s = 0 → putT s = b → nx = s.1 ∧ N = s.2.length ∧ b0 = s.2.flatMap putX ∧ e0 = 0 := fun s hs hb => by
    have ok := check23_ok.1 hs
    have hl := ok.len
    have h1 : rdSmall b 0 = (s.1, putSmall s.2.length ++ s.2.flatMap putX, 0) := by rw [← hb]; exact rdSmall_put ok.next.1 ok.next.2 _
    have h2 := rdSmall_put (n := s.2.length) (by omega) (by omega) (s.2.flatMap putX)
    rw [h1] at hnx hb0 he0 hN
    dsimp only at hnx hb0 he0 hN
    rw [h2] at hb0 he0 hN
    dsimp only at hb0 he0 hN
    exact ⟨hnx.symm, by rw [← hN, if_neg (by omega)], hb0.symm, he0.symm⟩
  refine LoopVC.weak [(.cell 2 1, .nil 144 TxnT)] (fun a : Nat × List Int × Int × List Txn => [(17, .i .i64 a.1)]) (fun a => [(1, .box [.sl (.int .u8) a.2.1, .i .i64 a.2.2.1]), (3, .arr 144 TxnT a.2.2.2)]) (fun a => a.1 ≤ 9 ∧ a.2.1 <:+ b ∧ a.2.2.2.length = a.1 ∧ (∀ x ∈ a.2.2.2, x.2.2.length ≤ 1000) ∧ ∀ s, check23 s = 0 → putT s = b → N = s.2.length ∧ nx = s.1 ∧ a.1 ≤ s.2.length ∧ a.2.1 = (s.2.drop a.1).flatMap putX ∧ a.2.2.1 = 0 ∧ a.2.2.2 = s.2.take a.1) (fun a => 9 - a.1) (0, b0, e0, []) (Ev.mk ?_)
  (conv => whnf)
  refine ⟨Leaf.mk ?_, Leaf.mk ?_, ?_⟩
  · rfl
  · refine ⟨by simp, hb2.trans hb1, rfl, ⟨fun x hx => (by cases hx), fun s hs hb => ?_⟩⟩
    obtain ⟨h1, h2, h3, h4⟩ := h0 s hs hb
    exact ⟨h2, h1, Nat.zero_le _, h3, h4, rfl⟩
  intro ⟨i, rb, re, vs⟩ ⟨hi, hrb, hvl, hvk, hv⟩
  dsimp only at hi hrb hvl hvk hv ⊢
  have hrl := suf_len hrb
  have hs1 := rdSmall_suf rb re
  have hs2 := rdSmall_suf (rdSmall rb re).2.1 (rdSmall rb re).2.2
  have hs1l := suf_len hs1
  have hs2l := suf_len hs2
  have hs3 := rdSmall_suf (rdSmall (rdSmall rb re).2.1 (rdSmall rb re).2.2).2.1 (rdSmall (rdSmall rb re).2.1 (rdSmall rb re).2.2).2.2
  have hs3l := suf_len hs3
  repeat' (first | ((with_reducible refine Ev.mk ?_); conv => whnf) | (with_reducible refine And.intro ?_ ?_) | (intro h))
  all_goals (try simp only [decide_eq_true_eq, decide_eq_false_iff_not, beq_iff_eq, bne_iff_ne, beq_eq_false_iff_ne, bne_eq_false_iff_eq, Int.toNat_natCast, ge_iff_le, gt_iff_lt, Bool.not_eq_true', Bool.not_eq_false', Int.not_lt, Int.not_le, ne_eq] at *)
  all_goals (try dsimp only [Ty.den, Ty.dflt, TxnT, sText, sSmall, sLeft] at *)
  all_goals (try simp only [eq4, ne4, eq3, ne3, eq2, ne2, Prod.eta, List.length_cons, List.length_nil, List.length_append, Nat.zero_add] at *)
  all_goals (try simp (disch := omega) only [wrap64] at *)
  all_goals try first | exact leafDraw (by kernel_rfl) | exact Leaf.mk trivial | (refine Leaf.mk ?_; omega) | (refine Leaf.mk ?_; unfold maxLen; omega)
  -- what the loop's end leaves
  all_goals try have hge : N ≤ (i : Int) := by rw [← hN]; assumption
  rotate_left
  · exact Leaf.mk (show vs.length ≤ 1000 ∧ ∀ x ∈ vs, x.2.2.length ≤ 1000 from ⟨by omega, hvk⟩)
  all_goals try
    have hsame : ∀ s, check23 s = 0 → putT s = b → (nx, vs) = s := fun s hs hb => by
      obtain ⟨k1, k2, k3, k4, k5, k6⟩ := hv s hs hb
      rw [k6, List.take_of_length_le (by omega), k2]
  · have h9 : ¬ (putTF (nx, vs)).2 = 0 := by assumption
    refine Leaf.mk (retGT (u := ((0, []), 4)) (v := getT b) ?_)
    rw [getT_not fun s hs hb => ?_]
    rw [hsame s hs hb, putTF, if_pos hs] at h9
    exact h9 rfl
  · have h8 : (putTF (nx, vs)).2 = 0 := by assumption
    have h9 : (strOfBytes b == strOfBytes (putTF (nx, vs)).1) = false := by assumption
    refine Leaf.mk (retGT (u := ((0, []), 4)) (v := getT b) ?_)
    rw [getT_not fun s hs hb => ?_]
    rw [hsame s hs hb, putTF, if_pos hs, hb] at h9
    simp at h9
  · have h8 : (putTF (nx, vs)).2 = 0 := by assumption
    have h9 : (strOfBytes b == strOfBytes (putTF (nx, vs)).1) = true := by assumption
    have hc : check23 (nx, vs) = 0 := by
      by_cases hc : check23 (nx, vs) = 0
      · exact hc
      · rw [putTF, if_neg hc] at h8; exact absurd h8 hc
    rw [putTF, if_pos hc] at h9
    refine Leaf.mk (retGT (u := ((nx, vs), 0)) (v := getT b) ?_)
    rw [getT_put hc (str_inj hB (isB_T _) (eq_of_beq h9)).symm (by omega)]
  have hlt : (i : Int) < N := by rw [← hN]; assumption
  have hM : (if ((rdSmall (rdSmall (rdSmall rb re).2.1 (rdSmall rb re).2.2).2.1 (rdSmall (rdSmall rb re).2.1 (rdSmall rb re).2.2).2.2).2.1.length : Int) < (rdSmall (rdSmall (rdSmall rb re).2.1 (rdSmall rb re).2.2).2.1 (rdSmall (rdSmall rb re).2.1 (rdSmall rb re).2.2).2.2).1 then ((rdSmall (rdSmall (rdSmall rb re).2.1 (rdSmall rb re).2.2).2.1 (rdSmall (rdSmall rb re).2.1 (rdSmall rb re).2.2).2.2).2.1.length : Int) else (rdSmall (rdSmall (rdSmall rb re).2.1 (rdSmall rb re).2.2).2.1 (rdSmall (rdSmall rb re).2.1 (rdSmall rb re).2.2).2.2).1) ≤ 900 := by split <;> omega
  have hgo : ∀ s, check23 s = 0 → putT s = b → i < s.2.length → (rdSmall rb re).1 = (s.2.getD i txn0).1 ∧ (rdSmall (rdSmall rb re).2.1 (rdSmall rb re).2.2).1 = (s.2.getD i txn0).2.1 ∧
      rdSmall (rdSmall (rdSmall rb re).2.1 (rdSmall rb re).2.2).2.1 (rdSmall (rdSmall rb re).2.1 (rdSmall rb re).2.2).2.2 = (((s.2.getD i txn0).2.2.length : Int), (s.2.getD i txn0).2.2.flatMap putText ++ (s.2.drop (i + 1)).flatMap putX, 0) ∧ (s.2.getD i txn0).2.2.length ≤ 900 := fun s hs hb hil => by
    obtain ⟨k1, k2, k3, k4, k5, k6⟩ := hv s hs hb
    have ok := (check23_ok.1 hs).all _ (getD_mem txn0 hil)
    have hkb := keys_in (t := s) (getD_mem txn0 hil)
    rw [hb] at hkb
    have e1 : rb = putSmall (s.2.getD i txn0).1 ++ (putSmall (s.2.getD i txn0).2.1 ++ (putSmall (s.2.getD i txn0).2.2.length ++ ((s.2.getD i txn0).2.2.flatMap putText ++ (s.2.drop (i + 1)).flatMap putX))) := by
      rw [k4, drop_at txn0 hil, List.flatMap_cons, putX]; simp only [List.append_assoc]
    rw [e1, k5, rdSmall_put ok.id.1 ok.id.2]
    dsimp only
    rw [rdSmall_put ok.st.1 ok.st.2]
    dsimp only
    rw [rdSmall_put (n := ((s.2.getD i txn0).2.2.length : Int)) (by omega) (by omega)]
    exact ⟨rfl, rfl, rfl, by omega⟩
  refine LoopVC.weak [(.cell 3 2, .nil 9 .str)] (fun a : Nat × List Int × Int × List (List UInt8) => [(29, .i .i64 a.1)]) (fun a => [(1, .box [.sl (.int .u8) a.2.1, .i .i64 a.2.2.1]), (5, .arr 9 .str a.2.2.2)]) (fun a => a.1 ≤ 900 ∧ a.2.1 <:+ b ∧ a.2.2.2.length = a.1 ∧ ∀ s, check23 s = 0 → putT s = b → i < s.2.length ∧ a.1 ≤ (s.2.getD i txn0).2.2.length ∧ a.2.1 = ((s.2.getD i txn0).2.2.drop a.1).flatMap putText ++ (s.2.drop (i + 1)).flatMap putX ∧ a.2.2.1 = 0 ∧ a.2.2.2 = (s.2.getD i txn0).2.2.take a.1) (fun a => 900 - a.1) (0, (rdSmall (rdSmall (rdSmall rb re).2.1 (rdSmall rb re).2.2).2.1 (rdSmall (rdSmall rb re).2.1 (rdSmall rb re).2.2).2.2).2.1, (rdSmall (rdSmall (rdSmall rb re).2.1 (rdSmall rb re).2.2).2.1 (rdSmall (rdSmall rb re).2.1 (rdSmall rb re).2.2).2.2).2.2, []) (Ev.mk ?_)
  (conv => whnf)
  refine ⟨Leaf.mk ?_, Leaf.mk ?_, ?_⟩
  · rfl
  · refine ⟨by simp, hs3.trans (hs2.trans (hs1.trans hrb)), rfl, fun s hs hb => ?_⟩
    have hil : i < s.2.length := by have := (hv s hs hb).1; omega
    obtain ⟨m1, m2, m3, m4⟩ := hgo s hs hb hil
    rw [m3]
    exact ⟨hil, Nat.zero_le _, rfl, rfl, rfl⟩
  intro ⟨k, rc, rd, ks⟩ ⟨hk, hrc, hkl, hkv⟩
  dsimp only at hk hrc hkl hkv ⊢
  have hcl := suf_len hrc
  have ht := rdText_suf rc rd 16
  repeat' (first | ((with_reducible refine Ev.mk ?_); conv => whnf) | (with_reducible refine And.intro ?_ ?_) | (intro h))
  all_goals (try simp only [decide_eq_true_eq, decide_eq_false_iff_not, beq_iff_eq, bne_iff_ne, beq_eq_false_iff_ne, bne_eq_false_iff_eq, Int.toNat_natCast, ge_iff_le, gt_iff_lt, Bool.not_eq_true', Bool.not_eq_false', Int.not_lt, Int.not_le, ne_eq] at *)
  all_goals (try dsimp only [Ty.den, Ty.dflt, TxnT, sText, sSmall, sLeft] at *)
  all_goals (try simp only [eq4, ne4, eq3, ne3, eq2, ne2, Prod.eta, List.length_cons, List.length_nil, List.length_append, Nat.zero_add] at *)
  all_goals (try simp (disch := omega) only [wrap64] at *)
  all_goals try first | exact leafDraw (by kernel_rfl) | exact Leaf.mk trivial | (refine Leaf.mk ?_; omega) | (refine Leaf.mk ?_; unfold maxLen; omega)
  all_goals
    have hMe : ∀ s, check23 s = 0 → putT s = b → (if (((rdSmall (rdSmall (rdSmall rb re).2.1 (rdSmall rb re).2.2).2.1 (rdSmall (rdSmall rb re).2.1 (rdSmall rb re).2.2).2.2).2.1.length : Nat) : Int) < (rdSmall (rdSmall (rdSmall rb re).2.1 (rdSmall rb re).2.2).2.1 (rdSmall (rdSmall rb re).2.1 (rdSmall rb re).2.2).2.2).1 then (((rdSmall (rdSmall (rdSmall rb re).2.1 (rdSmall rb re).2.2).2.1 (rdSmall (rdSmall rb re).2.1 (rdSmall rb re).2.2).2.2).2.1.length : Nat) : Int) else (rdSmall (rdSmall (rdSmall rb re).2.1 (rdSmall rb re).2.2).2.1 (rdSmall (rdSmall rb re).2.1 (rdSmall rb re).2.2).2.2).1) = (((s.2.getD i txn0).2.2.length : Nat) : Int) := fun s hs hb => by
      have hil : i < s.2.length := (hkv s hs hb).1
      obtain ⟨m1, m2, m3, m4⟩ := hgo s hs hb hil
      rw [m3]
      have := keys_ge (s.2.getD i txn0).2.2
      rw [if_neg (by rw [List.length_append]; omega)]
  · have hh : ((k : Nat) : Int) < (if (((rdSmall (rdSmall (rdSmall rb re).2.1 (rdSmall rb re).2.2).2.1 (rdSmall (rdSmall rb re).2.1 (rdSmall rb re).2.2).2.2).2.1.length : Nat) : Int) < (rdSmall (rdSmall (rdSmall rb re).2.1 (rdSmall rb re).2.2).2.1 (rdSmall (rdSmall rb re).2.1 (rdSmall rb re).2.2).2.2).1 then (((rdSmall (rdSmall (rdSmall rb re).2.1 (rdSmall rb re).2.2).2.1 (rdSmall (rdSmall rb re).2.1 (rdSmall rb re).2.2).2.2).2.1.length : Nat) : Int) else (rdSmall (rdSmall (rdSmall rb re).2.1 (rdSmall rb re).2.2).2.1 (rdSmall (rdSmall rb re).2.1 (rdSmall rb re).2.2).2.2).1) := by assumption
    refine Leaf.mk (Exists.intro (k + 1, (rdText rc rd 16).2.1, (rdText rc rd 16).2.2, ks ++ [(rdText rc rd 16).1]) ⟨rfl, ⟨by dsimp only; omega, ht.trans hrc, by simp; omega, fun s hs hb => ?_⟩, by dsimp only; omega⟩)
    obtain ⟨k1, k2, k3, k4, k5⟩ := hkv s hs hb
    have hM2 := hMe s hs hb
    rw [hM2] at hh
    have hkn : k < (s.2.getD i txn0).2.2.length := by omega
    have ok := (check23_ok.1 hs).all _ (getD_mem txn0 k1)
    have e1 : rdText rc rd 16 = ((s.2.getD i txn0).2.2.getD k [], ((s.2.getD i txn0).2.2.drop (k + 1)).flatMap putText ++ (s.2.drop (i + 1)).flatMap putX, 0) := by
      rw [k3, k4, drop_at [] hkn, List.flatMap_cons, List.append_assoc]
      exact rdText_put (by have := ok.keys _ (getD_mem [] hkn); omega) _
    dsimp only
    rw [e1]
    exact ⟨k1, by omega, rfl, rfl, by rw [take_at [] hkn, k5]⟩
  · have hh : (if (((rdSmall (rdSmall (rdSmall rb re).2.1 (rdSmall rb re).2.2).2.1 (rdSmall (rdSmall rb re).2.1 (rdSmall rb re).2.2).2.2).2.1.length : Nat) : Int) < (rdSmall (rdSmall (rdSmall rb re).2.1 (rdSmall rb re).2.2).2.1 (rdSmall (rdSmall rb re).2.1 (rdSmall rb re).2.2).2.2).1 then (((rdSmall (rdSmall (rdSmall rb re).2.1 (rdSmall rb re).2.2).2.1 (rdSmall (rdSmall rb re).2.1 (rdSmall rb re).2.2).2.2).2.1.length : Nat) : Int) else (rdSmall (rdSmall (rdSmall rb re).2.1 (rdSmall rb re).2.2).2.1 (rdSmall (rdSmall rb re).2.1 (rdSmall rb re).2.2).2.2).1) ≤ ((k : Nat) : Int) := by assumption
    refine Leaf.mk (Exists.intro (i + 1, rc, rd, vs ++ [((rdSmall rb re).1, (rdSmall (rdSmall rb re).2.1 (rdSmall rb re).2.2).1, ks)]) ⟨rfl, ⟨by dsimp only; omega, hrc, by simp; omega, fun x hx => ?_, fun s hs hb => ?_⟩, by dsimp only; omega⟩)
    · rcases List.mem_append.1 hx with hx | hx
      · exact hvk x hx
      · rw [List.mem_singleton] at hx
        rw [hx]; show ks.length ≤ 1000; omega
    · obtain ⟨k1, k2, k3, k4, k5⟩ := hkv s hs hb
      obtain ⟨q1, q2, q3, q4, q5, q6⟩ := hv s hs hb
      obtain ⟨m1, m2, m3, m4⟩ := hgo s hs hb k1
      have hM2 := hMe s hs hb
      rw [hM2] at hh
      have hkn : k = (s.2.getD i txn0).2.2.length := by omega
      dsimp only
      refine ⟨q1, q2, by omega, ?_, k4, ?_⟩
      · rw [k3, List.drop_eq_nil_of_le (by omega)]; rfl
      · rw [take_at txn0 k1, q6, m1, m2, k5, List.take_of_length_le (l := (s.2.getD i txn0).2.2) (by omega)]
end Go.Proofs.Ytlfehkoklgmjjaa
