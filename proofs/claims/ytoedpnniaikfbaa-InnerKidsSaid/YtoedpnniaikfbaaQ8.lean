import Derived.Test.YtoedpnniaikfbaaQ7
import Derived.Test.YtoedpnniaikfbaaEng4
/- Texts, one behind the other. -/
set_option linter.unusedVariables false
set_option linter.unusedSimpArgs false
set_option maxRecDepth 8000
set_option maxHeartbeats 4000000
namespace Go.Proofs.Ytoedpnniaikfbaa
open Go.Eng
def sEqualS : PSpec := ⟨[.d (.slice .str), .d (.slice .str)], [⟨false, [.d .bool]⟩], fun _ => True, fun x => ((decide ((x.1 : List S8) = x.2.1), ()), ())⟩
theorem fEqualS : FnOk Try.prog 138 := ⟨_, Try.func138, by decide, rfl⟩
theorem pEqualS : PSound Try.prog 138 sEqualS := by
  refine psound (T := tab) (S := (spOf [])) (keep := k138) (by kernel_rfl) tabOk spNil (by kernel_rfl) Try.func138 (by kernel_rfl) (by decide) fun xs hg hp => ?_
  obtain ⟨xs, ys, ⟨⟩⟩ := xs
  obtain ⟨⟨hl, -⟩, ⟨hl2, -⟩, -⟩ := hg
  have hl := len63 hl
  have hl2 := len63 hl2
  change List S8 at xs ys
  change xs.length ≤ _ at hl
  change ys.length ≤ _ at hl2
  clear hp
  show vfun tab _ k138 Try.f138 [.sl .str xs, .sl .str ys] [] _
  refine Ev.out ?_
  repeat' (first | ((with_reducible refine Ev.mk ?_); conv => whnf) | (with_reducible refine And.intro ?_ ?_) | (intro h))
  all_goals (try simp only [decide_eq_true_eq, decide_eq_false_iff_not, beq_iff_eq, bne_iff_ne, beq_eq_false_iff_ne, bne_eq_false_iff_eq, Int.toNat_natCast, ge_iff_le, gt_iff_lt, Bool.not_eq_true', Bool.not_eq_false', Int.not_lt, Int.not_le, ne_eq] at *)
  all_goals (try dsimp only [Ty.den, Ty.dflt, .str] at *)
  all_goals (try simp only [eq4, ne4, eq3, ne3, eq2, ne2, Prod.eta, List.length_cons, List.length_nil, List.length_append, Nat.zero_add] at *)
  all_goals (try simp (disch := omega) only [wrap64] at *)
  · refine Leaf.mk (ret1 (show false = decide (xs = ys) from ?_))
    rw [eq_comm, decide_eq_false_iff_not]; intro hc; subst hc; omega
  refine LoopVC.on (fun i : Nat => [(13, .i .i64 i)]) (fun _ => []) (fun i => i ≤ xs.length ∧ xs.take i = ys.take i) (fun i => xs.length - i) 0 rfl ⟨by omega, by simp⟩ ?_
  intro i ⟨hi, he⟩
  repeat' (first | ((with_reducible refine Ev.mk ?_); conv => whnf) | (with_reducible refine And.intro ?_ ?_) | (intro h))
  all_goals (try simp only [decide_eq_true_eq, decide_eq_false_iff_not, beq_iff_eq, bne_iff_ne, beq_eq_false_iff_ne, bne_eq_false_iff_eq, Int.toNat_natCast, ge_iff_le, gt_iff_lt, Bool.not_eq_true', Bool.not_eq_false', Int.not_lt, Int.not_le, ne_eq] at *)
  all_goals (try dsimp only [Ty.den, Ty.dflt, .str] at *)
  all_goals (try simp only [eq4, ne4, eq3, ne3, eq2, ne2, Prod.eta, List.length_cons, List.length_nil, List.length_append, Nat.zero_add] at *)
  all_goals (try simp (disch := omega) only [wrap64] at *)
  all_goals try first | exact leafDraw (by kernel_rfl) | exact Leaf.mk trivial | (refine Leaf.mk ?_; omega) | (refine Leaf.mk ?_; unfold maxLen; omega)
  all_goals try rw [eq6] at h
  all_goals try rw [ne6] at h
  all_goals first
    | exact Leaf.mk (ret1 (show false = decide (xs = ys) by rw [eq_comm, decide_eq_false_iff_not]; exact same_not [] h))
    | exact Leaf.mk ⟨i + 1, rfl, ⟨by omega, same_step [] (by omega) he (by omega) h⟩, by omega⟩
    | exact Leaf.mk (ret1 (show true = decide (xs = ys) by rw [eq_comm, decide_eq_true_eq]; exact same_end (by omega) he (by omega)))
def sEqualI : PSpec := ⟨[.d (.slice I64T), .d (.slice I64T)], [⟨false, [.d .bool]⟩], fun _ => True, fun x => ((decide ((x.1 : List Int) = x.2.1), ()), ())⟩
theorem fEqualI : FnOk Try.prog 139 := ⟨_, Try.func139, by decide, rfl⟩
theorem pEqualI : PSound Try.prog 139 sEqualI := by
  refine psound (T := tab) (S := (spOf [])) (keep := k139) (by kernel_rfl) tabOk spNil (by kernel_rfl) Try.func139 (by kernel_rfl) (by decide) fun xs hg hp => ?_
  obtain ⟨xs, ys, ⟨⟩⟩ := xs
  obtain ⟨⟨hl, -⟩, ⟨hl2, -⟩, -⟩ := hg
  have hl := len63 hl
  have hl2 := len63 hl2
  change List Int at xs ys
  change xs.length ≤ _ at hl
  change ys.length ≤ _ at hl2
  clear hp
  show vfun tab _ k139 Try.f139 [.sl I64T xs, .sl I64T ys] [] _
  refine Ev.out ?_
  repeat' (first | ((with_reducible refine Ev.mk ?_); conv => whnf) | (with_reducible refine And.intro ?_ ?_) | (intro h))
  all_goals (try simp only [decide_eq_true_eq, decide_eq_false_iff_not, beq_iff_eq, bne_iff_ne, beq_eq_false_iff_ne, bne_eq_false_iff_eq, Int.toNat_natCast, ge_iff_le, gt_iff_lt, Bool.not_eq_true', Bool.not_eq_false', Int.not_lt, Int.not_le, ne_eq] at *)
  all_goals (try dsimp only [Ty.den, Ty.dflt, I64T] at *)
  all_goals (try simp only [eq4, ne4, eq3, ne3, eq2, ne2, Prod.eta, List.length_cons, List.length_nil, List.length_append, Nat.zero_add] at *)
  all_goals (try simp (disch := omega) only [wrap64] at *)
  · refine Leaf.mk (ret1 (show false = decide (xs = ys) from ?_))
    rw [eq_comm, decide_eq_false_iff_not]; intro hc; subst hc; omega
  refine LoopVC.on (fun i : Nat => [(13, .i .i64 i)]) (fun _ => []) (fun i => i ≤ xs.length ∧ xs.take i = ys.take i) (fun i => xs.length - i) 0 rfl ⟨by omega, by simp⟩ ?_
  intro i ⟨hi, he⟩
  repeat' (first | ((with_reducible refine Ev.mk ?_); conv => whnf) | (with_reducible refine And.intro ?_ ?_) | (intro h))
  all_goals (try simp only [decide_eq_true_eq, decide_eq_false_iff_not, beq_iff_eq, bne_iff_ne, beq_eq_false_iff_ne, bne_eq_false_iff_eq, Int.toNat_natCast, ge_iff_le, gt_iff_lt, Bool.not_eq_true', Bool.not_eq_false', Int.not_lt, Int.not_le, ne_eq] at *)
  all_goals (try dsimp only [Ty.den, Ty.dflt, I64T] at *)
  all_goals (try simp only [eq4, ne4, eq3, ne3, eq2, ne2, Prod.eta, List.length_cons, List.length_nil, List.length_append, Nat.zero_add] at *)
  all_goals (try simp (disch := omega) only [wrap64] at *)
  all_goals try first | exact leafDraw (by kernel_rfl) | exact Leaf.mk trivial | (refine Leaf.mk ?_; omega) | (refine Leaf.mk ?_; unfold maxLen; omega)
  all_goals try rw [eq6] at h
  all_goals try rw [ne6] at h
  all_goals first
    | exact Leaf.mk (ret1 (show false = decide (xs = ys) by rw [eq_comm, decide_eq_false_iff_not]; exact same_not 0 h))
    | exact Leaf.mk ⟨i + 1, rfl, ⟨by omega, same_step 0 (by omega) he (by omega) h⟩, by omega⟩
    | exact Leaf.mk (ret1 (show true = decide (xs = ys) by rw [eq_comm, decide_eq_true_eq]; exact same_end (by omega) he (by omega)))
def sEqualM : PSpec := ⟨[.d (.slice MsgT), .d (.slice MsgT)], [⟨false, [.d .bool]⟩], fun _ => True, fun x => ((decide ((x.1 : List Msg) = x.2.1), ()), ())⟩
theorem fEqualM : FnOk Try.prog 141 := ⟨_, Try.func141, by decide, rfl⟩
theorem pEqualM : PSound Try.prog 141 sEqualM := by
  refine psound (T := tab) (S := (spOf [])) (keep := k141) (by kernel_rfl) tabOk spNil (by kernel_rfl) Try.func141 (by kernel_rfl) (by decide) fun xs hg hp => ?_
  obtain ⟨xs, ys, ⟨⟩⟩ := xs
  obtain ⟨⟨hl, -⟩, ⟨hl2, -⟩, -⟩ := hg
  have hl := len63 hl
  have hl2 := len63 hl2
  change List Msg at xs ys
  change xs.length ≤ _ at hl
  change ys.length ≤ _ at hl2
  clear hp
  show vfun tab _ k141 Try.f141 [.sl MsgT xs, .sl MsgT ys] [] _
  refine Ev.out ?_
  repeat' (first | ((with_reducible refine Ev.mk ?_); conv => whnf) | (with_reducible refine And.intro ?_ ?_) | (intro h))
  all_goals (try simp only [decide_eq_true_eq, decide_eq_false_iff_not, beq_iff_eq, bne_iff_ne, beq_eq_false_iff_ne, bne_eq_false_iff_eq, Int.toNat_natCast, ge_iff_le, gt_iff_lt, Bool.not_eq_true', Bool.not_eq_false', Int.not_lt, Int.not_le, ne_eq] at *)
  all_goals (try dsimp only [Ty.den, Ty.dflt, MsgT] at *)
  all_goals (try simp only [eq4, ne4, eq3, ne3, eq2, ne2, Prod.eta, List.length_cons, List.length_nil, List.length_append, Nat.zero_add] at *)
  all_goals (try simp (disch := omega) only [wrap64] at *)
  · refine Leaf.mk (ret1 (show false = decide (xs = ys) from ?_))
    rw [eq_comm, decide_eq_false_iff_not]; intro hc; subst hc; omega
  refine LoopVC.on (fun i : Nat => [(13, .i .i64 i)]) (fun _ => []) (fun i => i ≤ xs.length ∧ xs.take i = ys.take i) (fun i => xs.length - i) 0 rfl ⟨by omega, by simp⟩ ?_
  intro i ⟨hi, he⟩
  repeat' (first | ((with_reducible refine Ev.mk ?_); conv => whnf) | (with_reducible refine And.intro ?_ ?_) | (intro h))
  all_goals (try simp only [decide_eq_true_eq, decide_eq_false_iff_not, beq_iff_eq, bne_iff_ne, beq_eq_false_iff_ne, bne_eq_false_iff_eq, Int.toNat_natCast, ge_iff_le, gt_iff_lt, Bool.not_eq_true', Bool.not_eq_false', Int.not_lt, Int.not_le, ne_eq] at *)
  all_goals (try dsimp only [Ty.den, Ty.dflt, MsgT] at *)
  all_goals (try simp only [eq4, ne4, eq3, ne3, eq2, ne2, Prod.eta, List.length_cons, List.length_nil, List.length_append, Nat.zero_add] at *)
  all_goals (try simp (disch := omega) only [wrap64] at *)
  all_goals try first | exact leafDraw (by kernel_rfl) | exact Leaf.mk trivial | (refine Leaf.mk ?_; omega) | (refine Leaf.mk ?_; unfold maxLen; omega)
  all_goals try rw [eq6] at h
  all_goals try rw [ne6] at h
  all_goals first
    | exact Leaf.mk (ret1 (show false = decide (xs = ys) by rw [eq_comm, decide_eq_false_iff_not]; exact same_not msg0 h))
    | exact Leaf.mk ⟨i + 1, rfl, ⟨by omega, same_step msg0 (by omega) he (by omega) h⟩, by omega⟩
    | exact Leaf.mk (ret1 (show true = decide (xs = ys) by rw [eq_comm, decide_eq_true_eq]; exact same_end (by omega) he (by omega)))
instance decBufs : DecidableEq (List (List Msg)) := inferInstance
instance decInn2 : DecidableEq (List Int × List (List Msg)) := inferInstance
instance decInn : DecidableEq Inn := inferInstanceAs (DecidableEq (List (List UInt8) × List Int × List (List Msg)))
def sameI (a b : Inn) : Bool := decide (a = b)
theorem sameI_no {a b : Inn} (h : ¬ a = b) : false = sameI a b := (decide_eq_false h).symm
theorem sameI_yes {a b : Inn} (h1 : a.1 = b.1) (h2 : a.2.1 = b.2.1) (h3 : a.2.2 = b.2.2) : true = sameI a b := (decide_eq_true (by obtain ⟨x, y, z⟩ := a; obtain ⟨u, v, w⟩ := b; dsimp only at *; rw [h1, h2, h3])).symm
def sISame : PSpec := ⟨[.d InT, .d InT], [⟨false, [.d .bool]⟩], fun x => List.length x.1.2.1 ≤ 100000 ∧ List.length x.1.2.2 ≤ 100000, fun x => ((sameI x.1 x.2.1, ()), ())⟩
theorem fEqFM : FnOk Try.prog 140 := ⟨_, Try.func140, by decide, rfl⟩
noncomputable def iEqFM : Eng.Spec := inl tab (spOf [(141, sEqualM.spec (lsOf []))]) k140 Try.f140
theorem pEqFM : SpecOk Try.prog 140 iEqFM := inl_ok tabOk (spCons (pOk pEqualM fEqualM (by decide) lsNil) spNil) (by kernel_rfl) Try.func140 (by kernel_rfl)
theorem fISame : FnOk Try.prog 96 := ⟨_, Try.func96, by decide, rfl⟩
theorem pISame : PSound Try.prog 96 sISame := by
  refine psound (T := tab) (S := (spOf [(138, sEqualS.spec (lsOf [])), (139, sEqualI.spec (lsOf [])), (140, iEqFM), (141, sEqualM.spec (lsOf []))])) (keep := k96) (by kernel_rfl) tabOk (spCons (pOk pEqualS fEqualS (by decide) lsNil) (spCons (pOk pEqualI fEqualI (by decide) lsNil) (spCons (.inl ⟨pEqFM, fEqFM⟩) (spCons (pOk pEqualM fEqualM (by decide) lsNil) spNil)))) (by kernel_rfl) Try.func96 (by kernel_rfl) (by decide) fun xs hg hp => ?_
  obtain ⟨⟨ps, ks, bs⟩, ⟨ps1, ks1, bs1⟩, ⟨⟩⟩ := xs
  clear hg
  change List (List UInt8) at ps ps1
  change List Int at ks ks1
  change List (List Msg) at bs bs1
  change ks.length ≤ 100000 ∧ bs.length ≤ 100000 at hp
  obtain ⟨hk, hb⟩ := hp
  show vfun tab _ k96 Try.f96 [.agg [.sl .str ps, .sl (.int .i64) ks, .sl (.slice MsgT) bs], .agg [.sl .str ps1, .sl (.int .i64) ks1, .sl (.slice MsgT) bs1]] [] _
  refine Ev.out ?_
  repeat' (first | ((with_reducible refine Ev.mk ?_); conv => whnf) | (with_reducible refine And.intro ?_ ?_) | (intro h))
  all_goals (try simp only [decide_eq_true_eq, decide_eq_false_iff_not, beq_iff_eq, bne_iff_ne, beq_eq_false_iff_ne, bne_eq_false_iff_eq, Int.toNat_natCast, ge_iff_le, gt_iff_lt, Bool.not_eq_true', Bool.not_eq_false', Int.not_lt, Int.not_le, ne_eq] at *)
  all_goals (try dsimp only [Ty.den, Ty.dflt, InT, sEqualS, sEqualI] at *)
  all_goals (try simp only [eq4, ne4, eq3, ne3, eq2, ne2, Prod.eta, List.length_cons, List.length_nil, List.length_append, Nat.zero_add] at *)
  all_goals (try simp (disch := omega) only [wrap64] at *)
  all_goals try first | exact leafDraw (by kernel_rfl) | exact Leaf.mk trivial | (refine Leaf.mk ?_; omega) | (refine Leaf.mk ?_; unfold maxLen; omega)
  all_goals try first
    | exact Leaf.mk (ret1 (show false = sameI (ps, ks, bs) (ps1, ks1, bs1) from sameI_no fun h9 => of_decide_eq_false (show decide (ps = ps1) = false from ‹_›) (congrArg (·.1) h9)))
    | exact Leaf.mk (ret1 (show false = sameI (ps, ks, bs) (ps1, ks1, bs1) from sameI_no fun h9 => of_decide_eq_false (show decide (ks = ks1) = false from ‹_›) (congrArg (·.2.1) h9)))
    | (refine Leaf.mk (ret1 (show false = sameI (ps, ks, bs) (ps1, ks1, bs1) from sameI_no fun h9 => ?_)); have := congrArg (·.2.2.length) h9; dsimp only at this; omega)
  have hps : ps = ps1 := of_decide_eq_true (show decide (ps = ps1) = true from ‹_›)
  have hks : ks = ks1 := of_decide_eq_true (show decide (ks = ks1) = true from ‹_›)
  refine LoopVC.on (fun i : Nat => [(17, .i .i64 i)]) (fun _ => []) (fun i => i ≤ bs.length ∧ bs.take i = bs1.take i) (fun i => bs.length - i) 0 rfl ⟨by omega, by simp⟩ ?_
  intro i ⟨hi, he⟩
  repeat' (first | ((with_reducible refine Ev.mk ?_); conv => whnf) | (with_reducible refine And.intro ?_ ?_) | (intro h))
  all_goals (try simp only [decide_eq_true_eq, decide_eq_false_iff_not, beq_iff_eq, bne_iff_ne, beq_eq_false_iff_ne, bne_eq_false_iff_eq, Int.toNat_natCast, ge_iff_le, gt_iff_lt, Bool.not_eq_true', Bool.not_eq_false', Int.not_lt, Int.not_le, ne_eq] at *)
  all_goals (try dsimp only [Ty.den, Ty.dflt, InT, sEqualM] at *)
  all_goals (try simp only [eq4, ne4, eq3, ne3, eq2, ne2, Prod.eta, List.length_cons, List.length_nil, List.length_append, Nat.zero_add] at *)
  all_goals (try simp (disch := omega) only [wrap64] at *)
  all_goals try first | exact leafDraw (by kernel_rfl) | exact Leaf.mk trivial | (refine Leaf.mk ?_; omega) | (refine Leaf.mk ?_; unfold maxLen; omega)
  all_goals try first
    | exact Leaf.mk (ret1 (show false = sameI (ps, ks, bs) (ps1, ks1, bs1) from sameI_no fun h9 => same_not [] (of_decide_eq_false (show decide (bs.getD i [] = bs1.getD i []) = false from ‹_›)) (congrArg (·.2.2) h9)))
    | exact Leaf.mk ⟨i + 1, rfl, ⟨by omega, same_step [] (by omega) he (by omega) (of_decide_eq_true (show decide (bs.getD i [] = bs1.getD i []) = true from ‹_›))⟩, by omega⟩
    | exact Leaf.mk (ret1 (show true = sameI (ps, ks, bs) (ps1, ks1, bs1) from sameI_yes hps hks (show bs = bs1 from same_end (by omega) he (by omega))))
end Go.Proofs.Ytoedpnniaikfbaa

set_option linter.unusedVariables false
set_option linter.unusedSimpArgs false
set_option maxRecDepth 8000
set_option maxHeartbeats 4000000
namespace Go.Proofs.Ytoedpnniaikfbaa
open Go.Eng
def rdKey (k : Int) (r : List Int) : List UInt8 × List Int × Int := if k = 0 then rdText r 0 16 else ([], r, 0)
def rdTxn (k : Int) (p : List Int × Int) : Int × List Int × Int := if k = 0 ∨ k = 1 ∨ k = 2 then rdSmall p.1 p.2 else (0, p)
def rdTs (k : Int) (p : List Int × Int) : Int × List Int × Int := if k = 1 ∨ k = 3 then rdSmall p.1 p.2 else (0, p)
def readM (k : Int) (r : List Int) : Msg :=
  let t := rdTs k (rdTxn k (rdKey k r).2).2
  (k, (rdKey k r).1, (rdTxn k (rdKey k r).2).1, t.1, if k = 0 ∧ 0 < t.2.1.length then (t.2.1.getD 0 0 == 1, (rdText (t.2.1.drop 1) 0 24).1) else (false, []))
def preB : List Int → List Int → Bool
  | [], _ => true
  | _ :: _, [] => false
  | a :: r, b :: s => decide (a = b) && preB r s
theorem preB_iff : ∀ (a b : List Int), preB a b = true ↔ a <+: b
  | [], b => by simp [preB]
  | a :: r, [] => by simp [preB]
  | a :: r, b :: s => by
    rw [preB, Bool.and_eq_true, decide_eq_true_eq, preB_iff r s, List.cons_prefix_cons]
def getM (b : List Int) : Msg × Int × Int := match b with
  | [] => (msg0, 0, 4)
  | k :: r => if mcheck (readM k r) = 0 ∧ preB (putM (readM k r)) (k :: r) = true then (readM k r, (((putM (readM k r)).length : Nat) : Int), 0) else (msg0, 0, 4)
def tailM (m : Msg) (s : List Int) : List Int := (if m.1 = 0 then gvB m.2.2.2.2.1 m.2.2.2.2.2 else []) ++ s
structure RdOk (m : Msg) (r s : List Int) : Prop where
  key : rdKey m.1 r = (m.2.1, (rdKey m.1 r).2.1, 0)
  txn : rdTxn m.1 (rdKey m.1 r).2 = (m.2.2.1, (rdTxn m.1 (rdKey m.1 r).2).2.1, 0)
  ts : rdTs m.1 (rdTxn m.1 (rdKey m.1 r).2).2 = (m.2.2.2.1, tailM m s, 0)
  all : readM m.1 r = m
theorem readM_put {m : Msg} (h0 : 0 ≤ m.1) (h : mcheck m = 0) (s : List Int) : ∃ r, putM m ++ s = m.1 :: r ∧ RdOk m r s := by
  have ok := mcheck_ok h
  obtain ⟨kind, key, txn, ts, gone, val⟩ := m
  have hk1 := ok.key
  have hv1 := ok.val
  have hk2 := ok.kind
  have ht1 := ok.txn
  have ht2 := ok.ts
  have hf := ok.form
  dsimp only [mForm] at *
  have hkey := fun r => rdText_put (k := key) (m := 16) (by omega) r
  have htxn := fun r => rdSmall_put (n := txn) ht1.1 ht1.2 r
  have hts := fun r => rdSmall_put (n := ts) ht2.1 ht2.2 r
  have hval := fun r => rdText_put (k := val) (m := 24) (by omega) r
  refine ⟨_, rfl, ?_⟩
  rcases (by omega : kind = 0 ∨ kind = 1 ∨ kind = 2 ∨ kind = 3) with rfl | rfl | rfl | rfl
  · have hts0 : ts = 0 := hf.2.2.1 (.inl rfl)
    subst hts0
    constructor
    all_goals simp [rdKey, rdTxn, rdTs, readM, tailM, hkey, htxn]
    rw [gvB]
    cases gone <;> simp [hval]
  · obtain ⟨rfl, h2, h3⟩ : gone = false ∧ key = [] ∧ val = [] := by
      rcases hf.1 with h | h
      · omega
      · exact ⟨h.1, List.eq_nil_of_length_eq_zero h.2.1, List.eq_nil_of_length_eq_zero h.2.2⟩
    subst h2 h3
    constructor <;> simp [rdKey, rdTxn, rdTs, readM, tailM, htxn, hts]
  · obtain ⟨rfl, h2, h3⟩ : gone = false ∧ key = [] ∧ val = [] := by
      rcases hf.1 with h | h
      · omega
      · exact ⟨h.1, List.eq_nil_of_length_eq_zero h.2.1, List.eq_nil_of_length_eq_zero h.2.2⟩
    have hts0 : ts = 0 := hf.2.2.1 (.inr rfl)
    subst h2 h3 hts0
    constructor <;> simp [rdKey, rdTxn, rdTs, readM, tailM, htxn, hts]
  · obtain ⟨rfl, h2, h3⟩ : gone = false ∧ key = [] ∧ val = [] := by
      rcases hf.1 with h | h
      · omega
      · exact ⟨h.1, List.eq_nil_of_length_eq_zero h.2.1, List.eq_nil_of_length_eq_zero h.2.2⟩
    have htx0 : txn = 0 := hf.2.1 rfl
    subst h2 h3 htx0
    constructor <;> simp [rdKey, rdTxn, rdTs, readM, tailM, htxn, hts]
theorem getM_put {m : Msg} {b : List Int} (h0 : 0 ≤ m.1) (h : mcheck m = 0) (hb : putM m <+: b) : getM b = (m, (((putM m).length : Nat) : Int), 0) := by
  obtain ⟨s, rfl⟩ := hb
  obtain ⟨r, hr, q⟩ := readM_put h0 h s
  rw [hr, getM]
  rw [q.all, if_pos ⟨h, (preB_iff _ _).2 ⟨s, hr⟩⟩]
theorem getM_not {b : List Int} (hB : isB b) (hn : ∀ m : Msg, 0 ≤ m.1 → mcheck m = 0 → ¬ putM m <+: b) : getM b = (msg0, 0, 4) := by
  cases b with
  | nil => rfl
  | cons k r =>
    rw [getM, if_neg]
    intro hc
    exact hn (readM k r) (show 0 ≤ k from (hB k List.mem_cons_self).1) hc.1 ((preB_iff _ _).1 hc.2)
theorem getM_end {b : List Int} {m : Msg} (hB : isB b) (h0 : 0 ≤ m.1) (hu : ∀ x : Msg, 0 ≤ x.1 → mcheck x = 0 → putM x <+: b → m = x) :
    getM b = if mcheck m = 0 ∧ putM m <+: b then (m, (((putM m).length : Nat) : Int), 0) else (msg0, 0, 4) := by
  split
  · rename_i h; exact getM_put h0 h.1 h.2
  · rename_i h
    refine getM_not hB fun x hx0 hx hp => h ?_
    have := hu x hx0 hx hp
    subst this
    exact ⟨hx, hp⟩
theorem putR12_zero {m : Msg} (h : (putR12 m).2 = 0) : mcheck m = 0 ∧ (putR12 m).1 = putM m := by
  unfold putR12 at h ⊢
  split at h
  · rename_i hc; rw [if_pos hc]; exact ⟨hc, rfl⟩
  · rename_i hc; exact absurd h hc
theorem putR12_not {m : Msg} (h : ¬ (putR12 m).2 = 0) : ¬ mcheck m = 0 := fun hc => h (by unfold putR12; rw [if_pos hc])
def hasPre (b c : List Int) : Bool := decide (c.length ≤ b.length) && (strOfBytes (b.take c.length) == strOfBytes c)
theorem pre_str {b c : List Int} (hb : isB b) (hc : isB c) : strOfBytes c = strOfBytes (b.take c.length) ↔ c <+: b := by
  constructor
  · intro h
    rw [str_inj hc (isB_take hb _) h]; exact List.take_prefix _ _
  · intro h
    rw [← List.prefix_iff_eq_take.1 h]
theorem hasPre_iff {b c : List Int} (hb : isB b) (hc : isB c) : hasPre b c = true ↔ c <+: b := by
  rw [hasPre, str_eq (isB_take hb _) hc, Bool.and_eq_true, decide_eq_true_eq, decide_eq_true_eq]
  constructor
  · intro h; rw [← h.2]; exact List.take_prefix _ _
  · intro h; exact ⟨h.length_le, (List.prefix_iff_eq_take.1 h).symm⟩
structure GetFin (b : List Int) (m : Msg) : Prop where
  bad : ¬ (putR12 m).2 = 0 → ((msg0, 0, 4) : Msg × Int × Int) = getM b
  nol : (putR12 m).2 = 0 → (b.length : Int) < (putR12 m).1.length → ((msg0, 0, 4) : Msg × Int × Int) = getM b
  nos : (putR12 m).2 = 0 → ¬ strOfBytes (putR12 m).1 = strOfBytes (b.take (putR12 m).1.length) → ((msg0, 0, 4) : Msg × Int × Int) = getM b
  yess : (putR12 m).2 = 0 → strOfBytes (putR12 m).1 = strOfBytes (b.take (putR12 m).1.length) → (m, (((putR12 m).1.length : Nat) : Int), 0) = getM b
  nop : (putR12 m).2 = 0 → hasPre b (putR12 m).1 = false → ((msg0, 0, 4) : Msg × Int × Int) = getM b
  yesp : (putR12 m).2 = 0 → hasPre b (putR12 m).1 = true → (m, (((putR12 m).1.length : Nat) : Int), 0) = getM b
theorem fin_of {k : Int} {r : List Int} {m : Msg} (hB : isB (k :: r)) (hk : m.1 = k) (hu : ∀ (x : Msg) (s : List Int), x.1 = k → MsgOk x → RdOk x r s → m = readM k r) : GetFin (k :: r) m := by
  have h0 : 0 ≤ m.1 ∧ m.1 ≤ 255 := by rw [hk]; exact hB k List.mem_cons_self
  have e := getM_end hB h0.1 (fun x hx0 hx hp => by
    obtain ⟨s, hs⟩ := hp
    obtain ⟨r', hr, q⟩ := readM_put hx0 hx s
    rw [hs] at hr
    injection hr with h1 h2
    subst h2
    exact (hu x s h1.symm (mcheck_ok hx) q).trans (by rw [h1]; exact q.all))
  have hb : (putR12 m).2 = 0 → isB (putR12 m).1 := fun h => by rw [(putR12_zero h).2]; exact isB_M h0.1 h0.2
  have no : (putR12 m).2 = 0 → ¬ (putR12 m).1 <+: k :: r → ((msg0, 0, 4) : Msg × Int × Int) = getM (k :: r) := fun h hn => by
    rw [e, if_neg (fun hc => hn (by rw [(putR12_zero h).2]; exact hc.2))]
  have yes : (putR12 m).2 = 0 → (putR12 m).1 <+: k :: r → (m, (((putR12 m).1.length : Nat) : Int), 0) = getM (k :: r) := fun h hp => by
    rw [e, if_pos ⟨(putR12_zero h).1, by rw [← (putR12_zero h).2]; exact hp⟩, (putR12_zero h).2]
  refine ⟨fun h => ?_, fun h hl => no h fun hc => ?_, fun h hs => no h fun hc => hs ((pre_str hB (hb h)).2 hc), fun h hs => yes h ((pre_str hB (hb h)).1 hs),
    fun h hs => no h fun hc => ?_, fun h hs => yes h ((hasPre_iff hB (hb h)).1 hs)⟩
  · rw [e, if_neg (fun hc => putR12_not h hc.1)]
  · have := hc.length_le; omega
  · rw [(hasPre_iff hB (hb h)).2 hc] at hs; exact Bool.noConfusion hs
end Go.Proofs.Ytoedpnniaikfbaa

set_option linter.unusedVariables false
set_option linter.unusedSimpArgs false
set_option maxHeartbeats 1000000
namespace Go.Proofs.Ytoedpnniaikfbaa
open Go.Eng
def nnI (n : Inn) : Prop := ∀ l ∈ n.2.2, ∀ m ∈ l, 0 ≤ m.1
instance (n : Inn) : Decidable (nnI n) := by unfold nnI; infer_instance
theorem fnz_zero : ∀ {l : List Int}, fnz l = 0 → ∀ e ∈ l, e = 0
  | [], _, e, h => by simp at h
  | x :: l, h, e, he => by
    rw [fnz] at h
    split at h
    · rename_i hx
      rcases List.mem_cons.1 he with rfl | he
      · exact hx
      · exact fnz_zero h e he
    · rename_i hx; exact absurd h hx
structure ValI (n : Inn) : Prop where
  w1 : n.2.2.length = n.2.1.length
  w2 : n.1.length + 1 = n.2.1.length
  k2 : 2 ≤ n.2.1.length
  k6 : n.2.1.length ≤ 6
  ps : ∀ p ∈ n.1, p.length ≤ 16
  up : UpT n.1 n.1.length
  ks : ∀ k ∈ n.2.1, 0 ≤ k ∧ k ≤ 1099511627776
  ms : ∀ b ∈ n.2.2, ∀ m ∈ b, mcheck m = 0
  wt : waitE n = 0
  sz : (layI n).length ≤ 1016
theorem valI {n : Inn} (h : checkI n = 0) : ValI n := by
  have hw := checkI_whole h
  have hn : ¬ (wholeI n = false ∨ n.2.1.length < 2 ∨ 6 < n.2.1.length) := fun hc => by rw [checkI_form hc] at h; exact absurd h (by decide)
  have hp : pivE n.1 = 0 := Classical.byContradiction fun hc => hc (by rw [checkI_piv hn hc] at h; exact h)
  have hk : n.2.1.any outK = false := by
    cases hk : n.2.1.any outK
    · rfl
    · rw [checkI_kid hn hp hk] at h; exact absurd h (by decide)
  have ht : waitE n = 0 := Classical.byContradiction fun hc => hc (by rw [checkI_wait hn hp hk hc] at h; exact h)
  have hs : sizeI n ≤ 1016 := by
    rw [checkI_big hn hp hk ht] at h
    split at h
    · exact absurd h (by decide)
    · omega
  obtain ⟨h1, h2⟩ := wholeI_iff.1 hw
  unfold pivE at hp
  split at hp
  · exact absurd hp (by decide)
  rename_i ha
  split at hp
  case isFalse => exact absurd hp (by decide)
  rename_i hu
  refine ⟨h1, h2, by omega, by omega, fun p hp => ?_, hu, fun k hk9 => ?_, fun b hb m hm => ?_, ht, by rw [sizeI, if_pos hw] at hs; exact hs⟩
  · have h9 : ¬ bigT p = true := fun hc => ha (List.any_eq_true.2 ⟨p, hp, hc⟩)
    have h8 := of_decide_eq_false (by simpa [bigT] using h9 : decide (((p.length : Nat) : Int) > 16) = false)
    omega
  · have h9 := List.any_eq_false.1 hk k hk9
    simp only [outK, Bool.or_eq_true, decide_eq_true_eq] at h9
    omega
  · obtain ⟨i, hi, rfl⟩ := List.mem_iff_getElem.1 hb
    have h9 := fnz_zero ht (waitsI n i) (List.mem_map.2 ⟨i, List.mem_range.2 hi, rfl⟩)
    have h8 := fnz_zero h9 (ew n i m) (List.mem_map.2 ⟨m, by rw [List.getD_eq_getElem?_getD, List.getElem?_eq_getElem hi]; exact hm, rfl⟩)
    rw [ew] at h8
    split at h8
    · assumption
    · exact h8
theorem pm_ok {m : Msg} (h : mcheck m = 0) : pm m = putM m := by rw [pm, putR12, if_pos h]
theorem putM_pos (m : Msg) : 1 ≤ (putM m).length := by rw [putM, List.length_cons]; omega
theorem max0_ok {k : Int} (h : 0 ≤ k) : max0 k = k := by unfold max0; split <;> omega
def rdPs : Nat → List Int → List (List UInt8) × List Int
  | 0, r => ([], r)
  | k + 1, r => ((rdText r 0 16).1 :: (rdPs k (rdText r 0 16).2.1).1, (rdPs k (rdText r 0 16).2.1).2)
def rdMs : Nat → List Int → List Msg × List Int
  | 0, r => ([], r)
  | k + 1, r => ((getM r).1 :: (rdMs k (r.drop (getM r).2.1.toNat)).1, (rdMs k (r.drop (getM r).2.1.toNat)).2)
def rdKs : Nat → List Int → List Int × List (List Msg)
  | 0, _ => ([], [])
  | k + 1, r =>
    let m := rdMs (rdSmall (rdSmall r 0).2.1 0).1.toNat (rdSmall (rdSmall r 0).2.1 0).2.1
    ((rdSmall r 0).1 :: (rdKs k m.2).1, m.1 :: (rdKs k m.2).2)
def readI (b : List Int) : Inn :=
  let N := min (rdSmall b 0).1.toNat 6
  let p := rdPs (N - 1) (rdSmall b 0).2.1
  (p.1, (rdKs N p.2).1, (rdKs N p.2).2)
def getI (b : List Int) : Inn × Int := if checkI (readI b) = 0 ∧ nnI (readI b) ∧ layI (readI b) = b then (readI b, 0) else (inn0, 4)
theorem rdPs_put : ∀ (l : List (List UInt8)) (r : List Int), (∀ p ∈ l, p.length ≤ 16) → rdPs l.length (l.flatMap putText ++ r) = (l, r)
  | [], r, _ => rfl
  | p :: l, r, h => by
    have h1 := h p List.mem_cons_self
    have ih := rdPs_put l r fun q hq => h q (List.mem_cons_of_mem _ hq)
    rw [List.flatMap_cons, List.append_assoc, List.length_cons, rdPs, rdText_put (by omega), ih]
theorem rdMs_put : ∀ (l : List Msg) (r : List Int), (∀ m ∈ l, mcheck m = 0 ∧ 0 ≤ m.1) → rdMs l.length (l.flatMap pm ++ r) = (l, r)
  | [], r, _ => rfl
  | m :: l, r, h => by
    obtain ⟨h1, h2⟩ := h m List.mem_cons_self
    have ih := rdMs_put l r fun q hq => h q (List.mem_cons_of_mem _ hq)
    rw [List.flatMap_cons, List.append_assoc, List.length_cons, rdMs, pm_ok h1, getM_put h2 h1 (List.prefix_append _ _)]
    dsimp only
    rw [Int.toNat_natCast, List.drop_left' rfl, ih]
def kfrom : List Int → List (List Msg) → List Int
  | k :: ks, b :: bs => kb k b ++ kfrom ks bs
  | _, _ => []
theorem kfrom_eq : ∀ (ks : List Int) (bs : List (List Msg)), bs.length = ks.length → ((List.range ks.length).flatMap fun j => kb (ks.getD j 0) (bs.getD j [])) = kfrom ks bs
  | [], [], _ => rfl
  | k :: ks, b :: bs, h => by
    rw [List.length_cons, List.range_succ_eq_map, List.flatMap_cons, List.flatMap_map, kfrom, ← kfrom_eq ks bs (by simpa using h)]
    rfl
theorem layI_eq {n : Inn} (h : n.2.2.length = n.2.1.length) : layI n = putSmall (n.2.1.length : Nat) ++ (n.1.flatMap putText ++ kfrom n.2.1 n.2.2) := by
  rw [layI, kbs, kfrom_eq _ _ h, List.append_assoc]
theorem rdKs_put : ∀ (ks : List Int) (bs : List (List Msg)), bs.length = ks.length → (∀ k ∈ ks, 0 ≤ k ∧ k ≤ 1099511627776) → (∀ b ∈ bs, b.length ≤ 1099511627776 ∧ ∀ m ∈ b, mcheck m = 0 ∧ 0 ≤ m.1) → rdKs ks.length (kfrom ks bs) = (ks, bs)
  | [], [], _, _, _ => rfl
  | k :: ks, b :: bs, h, hk, hb => by
    obtain ⟨h1, h2⟩ := hk k List.mem_cons_self
    obtain ⟨h3, h4⟩ := hb b List.mem_cons_self
    have ih := rdKs_put ks bs (by simpa using h) (fun x hx => hk x (List.mem_cons_of_mem _ hx)) fun x hx => hb x (List.mem_cons_of_mem _ hx)
    rw [List.length_cons, kfrom, kb, max0_ok h1, List.append_assoc, List.append_assoc, rdKs, rdSmall_put h1 h2]
    dsimp only
    rw [rdSmall_put (Int.natCast_nonneg _) (by omega)]
    dsimp only
    rw [Int.toNat_natCast, rdMs_put b _ h4]
    dsimp only
    rw [ih]
theorem pms_ge : ∀ {b : List Msg}, (∀ m ∈ b, mcheck m = 0) → b.length ≤ (b.flatMap pm).length
  | [], _ => Nat.le_refl _
  | m :: b, h => by
    have h1 := putM_pos m
    have ih := pms_ge (b := b) fun x hx => h x (List.mem_cons_of_mem _ hx)
    rw [List.flatMap_cons, List.length_append, List.length_cons, pm_ok (h m List.mem_cons_self)]; omega
theorem kfrom_ge : ∀ {ks : List Int} {bs : List (List Msg)}, bs.length = ks.length → (∀ b ∈ bs, ∀ m ∈ b, mcheck m = 0) → ks.length + bs.flatten.length ≤ (kfrom ks bs).length
  | [], [], _, _ => by simp [kfrom]
  | k :: ks, b :: bs, h, hb => by
    have h1 := pms_ge (hb b List.mem_cons_self)
    have h2 := putSmall_len (max0 k)
    have ih := kfrom_ge (ks := ks) (bs := bs) (by simpa using h) fun x hx => hb x (List.mem_cons_of_mem _ hx)
    rw [kfrom, kb, List.length_append, List.length_append, List.length_append, List.flatten_cons, List.length_append, List.length_cons]; omega
theorem ValI.bl {n : Inn} (h : ValI n) {b : List Msg} (hb : b ∈ n.2.2) : b.length ≤ 1016 := by
  have h1 := h.sz
  have h2 := kfrom_ge h.w1 h.ms
  have h3 := (List.sublist_flatten_of_mem hb).length_le
  rw [layI_eq h.w1, List.length_append, List.length_append] at h1
  omega
theorem readI_put {n : Inn} (h : checkI n = 0) (h0 : nnI n) : readI (layI n) = n := by
  have v := valI h
  have hr := rdKs_put n.2.1 n.2.2 v.w1 v.ks fun b hb => ⟨by have := v.bl hb; omega, fun m hm => ⟨v.ms b hb m hm, h0 b hb m hm⟩⟩
  have hp := rdPs_put n.1 (kfrom n.2.1 n.2.2) v.ps
  have h1 := v.k6
  have h2 := v.w2
  rw [layI_eq v.w1, readI, rdSmall_put (Int.natCast_nonneg _) (by omega)]
  dsimp only
  rw [Int.toNat_natCast, Nat.min_eq_left h1, show n.2.1.length - 1 = n.1.length by omega, hp]
  dsimp only
  rw [hr]
theorem getI_put {n : Inn} {b : List Int} (h : checkI n = 0) (h0 : nnI n) (hb : layI n = b) : getI b = (n, 0) := by
  subst hb
  rw [getI, readI_put h h0, if_pos ⟨h, h0, rfl⟩]
theorem getI_not {b : List Int} (h : ∀ n, checkI n = 0 → nnI n → layI n ≠ b) : getI b = (inn0, 4) := by
  rw [getI, if_neg fun hc => h _ hc.1 hc.2.1 hc.2.2]
theorem isB_flatI {α : Type} {f : α → List Int} (h : ∀ a, isB (f a)) (l : List α) : isB (l.flatMap f) := fun x hx => by
  obtain ⟨a, _, ha⟩ := List.mem_flatMap.1 hx
  exact h a x ha
theorem isB_pm (m : Msg) (h0 : 0 ≤ m.1) : isB (pm m) := by
  rw [pm, putR12]; split
  · rename_i h; exact isB_M h0 (by have := (mcheck_ok h).kind; omega)
  · intro x hx; simp at hx
theorem isB_kfrom : ∀ (ks : List Int) (bs : List (List Msg)), (∀ b ∈ bs, ∀ m ∈ b, 0 ≤ m.1) → isB (kfrom ks bs)
  | [], _, _ => fun x hx => by simp [kfrom] at hx
  | _ :: _, [], _ => fun x hx => by simp [kfrom] at hx
  | k :: ks, b :: bs, h => by
    rw [kfrom, kb]
    refine isB_append (isB_append (isB_small _) (isB_append (isB_small _) fun x hx => ?_)) (isB_kfrom ks bs fun c hc => h c (List.mem_cons_of_mem _ hc))
    obtain ⟨m, hm, ha⟩ := List.mem_flatMap.1 hx
    exact isB_pm m (h b List.mem_cons_self m hm) x ha
theorem isB_layI {n : Inn} (hw : n.2.2.length = n.2.1.length) (h0 : nnI n) : isB (layI n) := by
  rw [layI_eq hw]
  exact isB_append (isB_small _) (isB_append (isB_flatI isB_put _) (isB_kfrom _ _ h0))
theorem putI_zero {n : Inn} (h : (putI n).2 = 0) : checkI n = 0 ∧ (putI n).1 = layI n := by
  unfold putI at h ⊢
  split at h
  · rename_i hc; rw [if_pos hc]; exact ⟨hc, rfl⟩
  · rename_i hc; exact absurd h hc
theorem putI_not {n : Inn} (h : ¬ (putI n).2 = 0) : ¬ checkI n = 0 := fun hc => h (by unfold putI; rw [if_pos hc])
theorem finI_bad {b : List Int} {acc : Inn} (h : ∀ n, checkI n = 0 → nnI n → layI n = b → acc = n) (hp : ¬ (putI acc).2 = 0) : getI b = (inn0, 4) := getI_not fun n hc h0 hb => by
  have := h n hc h0 hb
  subst this
  exact putI_not hp hc
theorem finI_not {b : List Int} {acc : Inn} (h : ∀ n, checkI n = 0 → nnI n → layI n = b → acc = n) (hp : (putI acc).2 = 0) (hn : ¬ strOfBytes (putI acc).1 = strOfBytes b) : getI b = (inn0, 4) := getI_not fun n hc h0 hb => by
  have := h n hc h0 hb
  subst this
  rw [(putI_zero hp).2, hb] at hn
  exact hn rfl
theorem finI_yes {b : List Int} {acc : Inn} (hB : isB b) (h0 : nnI acc) (hp : (putI acc).2 = 0) (hn : strOfBytes (putI acc).1 = strOfBytes b) : getI b = (acc, 0) := by
  obtain ⟨h1, h2⟩ := putI_zero hp
  rw [h2] at hn
  exact getI_put h1 h0 (str_inj (isB_layI (valI h1).w1 h0) hB hn)
theorem getM_nn {b : List Int} (hB : isB b) : 0 ≤ (getM b).1.1 := by
  cases b with
  | nil => exact Int.le_refl 0
  | cons k r =>
    rw [getM]
    split
    · exact (hB k List.mem_cons_self).1
    · exact Int.le_refl 0
theorem getM_cases (b : List Int) : getM b = (msg0, 0, 4) ∨ ∃ m, mcheck m = 0 ∧ putM m <+: b ∧ getM b = (m, (((putM m).length : Nat) : Int), 0) := by
  cases b with
  | nil => exact .inl rfl
  | cons k r =>
    rw [getM]
    split
    · rename_i h; exact .inr ⟨_, h.1, (preB_iff _ _).1 h.2, rfl⟩
    · exact .inl rfl
theorem getM_step {b : List Int} (h : (getM b).2.2 = 0) : 1 ≤ (getM b).2.1 ∧ (getM b).2.1 ≤ b.length := by
  rcases getM_cases b with h1 | ⟨m, _, h2, h3⟩
  · rw [h1] at h; exact absurd h (by decide)
  · have := putM_pos m
    have := h2.length_le
    rw [h3]; dsimp only; omega
theorem rdText_max9 (b : List Int) (e : Int) {m : Int} (h : 0 ≤ m) : ((rdText b e m).1.length : Int) ≤ m := by
  unfold rdText
  repeat' split
  all_goals first
    | (simp; omega)
    | (dsimp only at *; omega)
    | skip
end Go.Proofs.Ytoedpnniaikfbaa

set_option linter.unusedVariables false
set_option linter.unusedSimpArgs false
set_option maxRecDepth 8000
set_option maxHeartbeats 1000000
namespace Go.Proofs.Ytoedpnniaikfbaa
open Go.Eng
section
variable {α : Type} {p : Nat → Bool} {m : α} {bs : List (List α)} {i : Nat}
def addB (p : Nat → Bool) (m : α) (bs : List (List α)) : List (List α) := (List.range bs.length).map fun j => if p j = true then bs.getD j [] ++ [m] else bs.getD j []
def rowsX (p : Nat → Bool) (m : α) (bs : List (List α)) (i : Nat) : List (Bool × List α) := (List.range bs.length).map fun j => if j < i ∧ p j = true then (false, bs.getD j [] ++ [m]) else (true, bs.getD j [])
theorem rowsX_len : (rowsX p m bs i).length = bs.length := by simp [rowsX]
theorem rowsX_zero : rowsX p m bs 0 = bs.map (fun b => (true, b)) := by
  apply List.ext_getElem (by simp [rowsX])
  intro j h1 h2
  simp only [List.length_map] at h2
  simp [rowsX, List.getD_eq_getElem?_getD, List.getElem?_eq_getElem h2]
theorem rowsX_get (h : i < bs.length) : (rowsX p m bs i)[i]? = some (true, bs.getD i []) := by
  simp [rowsX, h]
theorem rowsX_set (h : p i = true) : (rowsX p m bs i).set i (false, bs.getD i [] ++ [m]) = rowsX p m bs (i + 1) := by
  apply List.ext_getElem (by simp [rowsX])
  intro j h1 h2
  by_cases hj : i = j
  · subst hj; simp [rowsX, h]
  · simp only [List.getElem_set, if_neg hj, rowsX, List.getElem_map, List.getElem_range]
    congr 1
    apply propext
    constructor
    · rintro ⟨h3, h4⟩; exact ⟨by omega, h4⟩
    · rintro ⟨h3, h4⟩; exact ⟨by omega, h4⟩
theorem rowsX_no (h : p i = false) : rowsX p m bs (i + 1) = rowsX p m bs i := by
  apply List.ext_getElem (by simp [rowsX])
  intro j h1 h2
  simp only [rowsX, List.getElem_map, List.getElem_range]
  congr 1
  apply propext
  constructor
  · rintro ⟨h3, h4⟩
    refine ⟨?_, h4⟩
    rcases Nat.lt_or_ge j i with h5 | h5
    · exact h5
    · obtain rfl : j = i := by omega
      rw [h] at h4; cases h4
  · rintro ⟨h3, h4⟩; exact ⟨by omega, h4⟩
theorem rowsX_end : (rowsX p m bs bs.length).map (fun r => r.2) = addB p m bs := by
  apply List.ext_getElem (by simp [rowsX, addB])
  intro j h1 h2
  simp only [rowsX, addB, List.getElem_map, List.getElem_range]
  have hj : j < bs.length := by simpa [addB] using h2
  by_cases hp : p j = true
  · simp [hp, hj]
  · simp [hp]
end
abbrev Rs (ps : List (List UInt8)) : Prop := ps.Pairwise (· < ·)
theorem atP_iff {k p : List UInt8} : atP k p = true ↔ ¬ k < p := by
  rw [atP_eq, Bool.not_eq_true', sless_eq, decide_eq_false_iff_not]
theorem not_atP {k p : List UInt8} : ¬ atP k p = true ↔ k < p := by
  rw [atP_iff, Classical.not_not]
theorem getD_in {α : Type} {l : List α} {i : Nat} {d : α} (h : i < l.length) : l.getD i d = l[i] := by
  rw [List.getD_eq_getElem?_getD, List.getElem?_eq_getElem h]; rfl
theorem upT_rs {ps : List (List UInt8)} (h : UpT ps ps.length) : Rs ps ∧ ∀ p ∈ ps, ¬ p = [] := by
  have hs : ∀ j, j < ps.length → 0 < j → ps.getD (j - 1) [] < ps.getD j [] := fun j hj h0 => by
    have := h j hj
    rw [lastI, if_neg (by omega)] at this
    exact sless_iff.1 this
  have hd : ∀ d i, i + d + 1 < ps.length → ps.getD i [] < ps.getD (i + d + 1) [] := by
    intro d
    induction d with
    | zero => intro i hi; have := hs (i + 1) (by omega) (by omega); simpa using this
    | succ d ih =>
      intro i hi
      have h1 := ih i (by omega)
      have h2 := hs (i + d + 1 + 1) (by omega) (by omega)
      have h3 : i + d + 1 + 1 - 1 = i + d + 1 := by omega
      rw [h3] at h2
      exact slt_trans h1 h2
  refine ⟨List.pairwise_iff_getElem.2 fun i j hi hj hij => ?_, fun p hp => ?_⟩
  · have := hd (j - i - 1) i (by omega)
    rw [show i + (j - i - 1) + 1 = j by omega, getD_in hi, getD_in hj] at this
    exact this
  · obtain ⟨i, hi, rfl⟩ := List.mem_iff_getElem.1 hp
    intro hc
    have := h i hi
    rw [getD_in hi, hc, sless_no] at this
    exact absurd this (by simp)
theorem rs_upT {ps : List (List UInt8)} (h : Rs ps) (h0 : ∀ p ∈ ps, ¬ p = []) : UpT ps ps.length := fun j hj => by
  rw [lastI]
  split
  · exact sless_nil (h0 _ (by rw [getD_in hj]; exact List.getElem_mem hj))
  · rw [getD_in hj, getD_in (show j - 1 < ps.length by omega)]
    exact sless_iff.2 (List.pairwise_iff_getElem.1 h (j - 1) j (by omega) hj (by omega))
theorem route_iff (k : List UInt8) : ∀ {ps : List (List UInt8)}, Rs ps → ∀ j, j < routeI ps k ↔ j < ps.length ∧ ¬ k < ps.getD j []
  | [], _, j => by simp [routeI]
  | p :: ps, h, j => by
    have h1 := List.pairwise_cons.1 h
    have ih := route_iff k h1.2
    by_cases hp : atP k p = true
    · have e : routeI (p :: ps) k = routeI ps k + 1 := by rw [routeI, List.filter_cons_of_pos hp, List.length_cons]; rfl
      rw [e]
      cases j with
      | zero => simp; exact atP_iff.1 hp
      | succ j => rw [List.length_cons, List.getD_cons_succ, Nat.add_lt_add_iff_right, Nat.add_lt_add_iff_right]; exact ih j
    · have e : routeI (p :: ps) k = 0 := by
        rw [routeI, List.filter_cons_of_neg hp, List.length_eq_zero_iff, List.filter_eq_nil_iff]
        exact fun q hq => not_atP.2 (slt_trans (not_atP.1 hp) (h1.1 q hq))
      rw [e]
      constructor
      · intro hc; omega
      · rintro ⟨hj, hk⟩
        exfalso
        apply hk
        cases j with
        | zero => simpa using not_atP.1 hp
        | succ j =>
          have hj' : j < ps.length := by simpa using hj
          rw [List.getD_cons_succ, getD_in hj']
          exact slt_trans (not_atP.1 hp) (h1.1 _ (List.getElem_mem hj'))
theorem route_eq {k : List UInt8} {ps : List (List UInt8)} (h : Rs ps) {r : Nat} (hr : r ≤ ps.length) (h1 : 0 < r → ¬ k < ps.getD (r - 1) []) (h2 : r < ps.length → k < ps.getD r []) : routeI ps k = r := by
  have i1 := route_iff k h
  have hle := routeI_le ps k
  rcases Nat.lt_trichotomy (routeI ps k) r with h3 | h3 | h3
  · have := (i1 (r - 1)).2 ⟨by omega, h1 (by omega)⟩
    omega
  · exact h3
  · exact absurd (h2 (by omega)) ((i1 r).1 h3).2
theorem route_lo {k : List UInt8} {ps : List (List UInt8)} (h : Rs ps) (h0 : 0 < routeI ps k) : ¬ k < ps.getD (routeI ps k - 1) [] := ((route_iff k h _).1 (by omega)).2
theorem route_hi {k : List UInt8} {ps : List (List UInt8)} (h : Rs ps) (h0 : routeI ps k < ps.length) : k < ps.getD (routeI ps k) [] := Classical.byContradiction fun hc => by
  have := (route_iff k h (routeI ps k)).2 ⟨h0, hc⟩
  omega
section
variable {α : Type} {k : Nat} {key : α} {ps : List α} {j : Nat}
def insK (k : Nat) (key : α) (ps : List α) : List α := ps.take k ++ ([key] ++ ps.drop k)
theorem insK_len (hk : k ≤ ps.length) : (insK k key ps).length = ps.length + 1 := by
  rw [insK, List.length_append, List.length_append, List.length_take, List.length_drop]; simp; omega
theorem insK_lo (d : α) (hk : k ≤ ps.length) (hj : j < k) : (insK k key ps).getD j d = ps.getD j d := by
  simp only [insK, List.getD_eq_getElem?_getD]
  rw [List.getElem?_append_left (by simp; omega), List.getElem?_take_of_lt hj]
theorem insK_at (d : α) (hk : k ≤ ps.length) : (insK k key ps).getD k d = key := by
  simp only [insK, List.getD_eq_getElem?_getD]
  rw [List.getElem?_append_right (by simp; omega)]
  simp [Nat.min_eq_left hk]
theorem insK_hi (d : α) (hk : k ≤ ps.length) (hj : k < j) : (insK k key ps).getD j d = ps.getD (j - 1) d := by
  simp only [insK, List.getD_eq_getElem?_getD]
  rw [List.getElem?_append_right (by simp; omega), List.length_take, Nat.min_eq_left hk]
  obtain ⟨d, rfl⟩ : ∃ d, j = k + d + 1 := ⟨j - k - 1, by omega⟩
  rw [show k + d + 1 - k = d + 1 by omega]
  simp
theorem insK_mem {x : α} (h : x ∈ insK k key ps) : x = key ∨ x ∈ ps := by
  rcases List.mem_append.1 h with h | h
  · exact .inr (List.mem_of_mem_take h)
  · rcases List.mem_append.1 h with h | h
    · exact .inl (List.mem_singleton.1 h)
    · exact .inr (List.mem_of_mem_drop h)
end
theorem insK_rs {k : Nat} {key : List UInt8} {ps : List (List UInt8)} (h : Rs ps) (hk : k ≤ ps.length) (h1 : 0 < k → ps.getD (k - 1) [] < key) (h2 : k < ps.length → key < ps.getD k []) : Rs (insK k key ps) := by
  refine List.pairwise_append.2 ⟨h.sublist (List.take_sublist _ _), List.pairwise_append.2 ⟨by simp, h.sublist (List.drop_sublist _ _), fun a ha b hb => ?_⟩, fun a ha b hb => ?_⟩
  · simp only [List.mem_singleton] at ha; subst ha
    obtain ⟨i, hi, rfl⟩ := List.mem_iff_getElem.1 hb
    rw [List.length_drop] at hi
    rw [List.getElem_drop]
    have h3 := h2 (by omega)
    rw [getD_in (by omega)] at h3
    rcases Nat.eq_zero_or_pos i with rfl | h0
    · simpa using h3
    · exact slt_trans h3 (List.pairwise_iff_getElem.1 h k (k + i) (by omega) (by omega) (by omega))
  · obtain ⟨i, hi, rfl⟩ := List.mem_iff_getElem.1 ha
    rw [List.length_take] at hi
    rw [List.getElem_take]
    have hlo : ps[i] < key := by
      have h3 := h1 (by omega)
      rw [getD_in (by omega)] at h3
      rcases Nat.lt_or_ge i (k - 1) with h4 | h4
      · exact slt_trans (List.pairwise_iff_getElem.1 h i (k - 1) (by omega) (by omega) h4) h3
      · obtain rfl : i = k - 1 := by omega
        exact h3
    rcases List.mem_append.1 hb with hb | hb
    · simp only [List.mem_singleton] at hb; subst hb; exact hlo
    · obtain ⟨j, hj, rfl⟩ := List.mem_iff_getElem.1 hb
      rw [List.length_drop] at hj
      rw [List.getElem_drop]
      exact List.pairwise_iff_getElem.1 h i (k + j) (by omega) (by omega) (by omega)

def hasI (n : Inn) (i : Int) : Bool := decide (wholeI n = true ∧ 0 ≤ i ∧ i < (n.2.1.length : Int))
def aimI (n : Inn) (m : Msg) (j : Nat) : Bool := wide m || decide (j = routeI n.1 m.2.1)
def addI (n : Inn) (m : Msg) : Inn := if wholeI n = true ∧ mcheck m = 0 then (n.1, n.2.1, addB (aimI n m) m n.2.2) else n
def weighI (n : Inn) (i : Int) : Int := if hasI n i = true then (((n.2.2.getD i.toNat []).flatMap pm).length : Nat) else 0
def takeI (n : Inn) (i : Int) : List Msg × Inn := if hasI n i = true then (n.2.2.getD i.toNat [], (n.1, n.2.1, n.2.2.set i.toNat [])) else ([], n)
def renewI (n : Inn) (i kid : Int) : Inn := if hasI n i = true then (n.1, n.2.1.set i.toNat kid, n.2.2) else n
def growI (n : Inn) (i right : Int) (sep : List UInt8) : Inn := if hasI n i = true then (insK i.toNat sep n.1, insK (i.toNat + 1) right n.2.1, insK (i.toNat + 1) [] n.2.2) else n
def splitI (n : Inn) : Inn × Inn × List UInt8 := if wholeI n = true ∧ 2 ≤ n.2.1.length then ((n.1.take (n.2.1.length / 2 - 1), n.2.1.take (n.2.1.length / 2), n.2.2.take (n.2.1.length / 2)), (n.1.drop (n.2.1.length / 2), n.2.1.drop (n.2.1.length / 2), n.2.2.drop (n.2.1.length / 2)), n.1.getD (n.2.1.length / 2 - 1) []) else (n, ([], [], []), [])
def fullN (n : Inn) : Nat → Int × Int
  | 0 => (0, 0)
  | i + 1 => if weighI n i > (fullN n i).2 then ((i : Int), weighI n i) else fullN n i
def fullestI (n : Inn) : Int := (fullN n n.2.1.length).1
def loI (n : Inn) (i : Int) : List UInt8 := if 0 < i ∧ i < (n.2.1.length : Int) ∧ i ≤ (n.1.length : Int) then n.1.getD (i.toNat - 1) [] else []
def hiI (n : Inn) (i : Int) : List UInt8 := if 0 ≤ i ∧ i < (n.2.1.length : Int) ∧ i < (n.1.length : Int) then n.1.getD i.toNat [] else []
theorem fnz_all : ∀ {l : List Int}, (∀ e ∈ l, e = 0) → fnz l = 0
  | [], _ => rfl
  | x :: l, h => by rw [fnz, if_pos (h x List.mem_cons_self)]; exact fnz_all fun e he => h e (List.mem_cons_of_mem _ he)
theorem waitE_ok {n : Inn} (h : ∀ i, i < n.2.2.length → ∀ m ∈ n.2.2.getD i [], ew n i m = 0) : waitE n = 0 := by
  refine fnz_all fun e he => ?_
  obtain ⟨i, hi, rfl⟩ := List.mem_map.1 he
  refine fnz_all fun e he => ?_
  obtain ⟨m, hm, rfl⟩ := List.mem_map.1 he
  exact h i (List.mem_range.1 hi) m hm
theorem ew_ok {n : Inn} {i : Nat} {m : Msg} (h1 : mcheck m = 0) (h2 : m.1 = 0 → routeI n.1 m.2.1 = i) : ew n i m = 0 := by
  rw [ew, if_pos h1, if_neg]
  rintro ⟨h3, h4⟩
  exact h4 (by rw [h2 h3])
theorem ew_inv {n : Inn} (h : waitE n = 0) {i : Nat} (hi : i < n.2.2.length) {m : Msg} (hm : m ∈ n.2.2.getD i []) : mcheck m = 0 ∧ (m.1 = 0 → routeI n.1 m.2.1 = i) := by
  have h9 := fnz_zero h (waitsI n i) (List.mem_map.2 ⟨i, List.mem_range.2 hi, rfl⟩)
  have h8 := fnz_zero h9 (ew n i m) (List.mem_map.2 ⟨m, hm, rfl⟩)
  rw [ew] at h8
  split at h8
  · rename_i h7
    refine ⟨h7, fun h0 => ?_⟩
    split at h8
    · exact absurd h8 (by decide)
    · rename_i h6
      exact Classical.byContradiction fun hc => h6 ⟨h0, fun he => hc (by omega)⟩
  · rename_i h7; exact absurd h8 h7
theorem pivE_ok {ps : List (List UInt8)} (h : ∀ p ∈ ps, p.length ≤ 16) (hu : UpT ps ps.length) : pivE ps = 0 := by
  rw [pivE, if_neg, if_pos hu]
  intro hc
  obtain ⟨p, hp, hb⟩ := List.any_eq_true.1 hc
  have := of_decide_eq_true (show decide (((p.length : Nat) : Int) > 16) = true from hb)
  have := h p hp
  omega
theorem val_ok {n : Inn} (w : wholeI n = true) (k2 : 2 ≤ n.2.1.length) (k6 : n.2.1.length ≤ 6) (hp : pivE n.1 = 0) (hk : ∀ k ∈ n.2.1, 0 ≤ k ∧ k ≤ 1099511627776) (hw : waitE n = 0) : checkI n = if 1016 < sizeI n then 5 else 0 := by
  refine checkI_big (fun hc => ?_) hp ?_ hw
  · rw [w] at hc; simp at hc; omega
  · rw [List.any_eq_false]
    intro k h
    have := hk k h
    simp only [outK, Bool.or_eq_true, decide_eq_true_eq]
    omega
theorem whole_of {n : Inn} (v : ValI n) : wholeI n = true := wholeI_iff.2 ⟨v.w1, v.w2⟩
theorem val_rs {n : Inn} (v : ValI n) : Rs n.1 ∧ ∀ p ∈ n.1, ¬ p = [] := upT_rs v.up
theorem bounds_route {n : Inn} (v : ValI n) (key : List UInt8) {k : Nat} (hk : k < n.2.1.length) : (¬ key < loI n k ∧ (hiI n k = [] ∨ key < hiI n k)) ↔ routeI n.1 key = k := by
  obtain ⟨hr, h0⟩ := val_rs v
  have w2 := v.w2
  have hlo : loI n k = if 0 < k then n.1.getD (k - 1) [] else [] := by
    rw [loI]
    by_cases h : 0 < k
    · rw [if_pos ⟨by omega, by omega, by omega⟩, if_pos h]; rfl
    · rw [if_neg (by omega), if_neg h]
  have hhi : hiI n k = if k < n.1.length then n.1.getD k [] else [] := by
    rw [hiI]
    by_cases h : k < n.1.length
    · rw [if_pos ⟨by omega, by omega, by omega⟩, if_pos h]; rfl
    · rw [if_neg (by omega), if_neg h]
  rw [hlo, hhi]
  constructor
  · rintro ⟨h1, h2⟩
    refine route_eq hr (by omega) (fun h => by rw [if_pos h] at h1; exact h1) (fun h => ?_)
    rw [if_pos h] at h2
    rcases h2 with h2 | h2
    · exact absurd h2 (h0 _ (by rw [getD_in h]; exact List.getElem_mem h))
    · exact h2
  · intro e
    subst e
    refine ⟨?_, ?_⟩
    · split
      · rename_i h; exact route_lo hr h
      · exact fun hc => by cases key <;> cases hc
    · by_cases h : routeI n.1 key < n.1.length
      · rw [if_pos h]; exact .inr (route_hi hr h)
      · rw [if_neg h]; exact .inl rfl
theorem kb_nil_le (k : Int) (b : List Msg) : (kb k []).length ≤ (kb k b).length := by
  have h1 : (putSmall ((List.length ([] : List Msg) : Nat) : Int)).length = 1 := by decide
  have h2 := (putSmall_len ((b.length : Nat) : Int)).1
  rw [kb, kb, List.length_append, List.length_append, List.length_append, List.length_append, h1]
  simp only [List.flatMap_nil, List.length_nil]
  omega
theorem getD_set {α : Type} {l : List α} {k i : Nat} {x d : α} (hk : k < l.length) : (l.set k x).getD i d = if i = k then x else l.getD i d := by
  rw [List.getD_eq_getElem?_getD, List.getD_eq_getElem?_getD, List.getElem?_set]
  by_cases h : k = i
  · subst h; rw [if_pos rfl, if_pos rfl, if_pos hk]; rfl
  · rw [if_neg h, if_neg (fun e => h e.symm)]
theorem kbs_take_le {ps : List (List UInt8)} {ks : List Int} {bs : List (List Msg)} {k : Nat} (hk : k < bs.length) : ∀ i, (kbs (ps, ks, bs.set k []) i).length ≤ (kbs (ps, ks, bs) i).length
  | 0 => by simp [kbs]
  | i + 1 => by
    have ih := kbs_take_le (ps := ps) (ks := ks) hk i
    rw [kbs_at, kbs_at, List.length_append, List.length_append]
    dsimp only
    rw [getD_set hk]
    have h1 := kb_nil_le (ks.getD i 0) (bs.getD i [])
    split
    · omega
    · omega
theorem take_eq {n : Inn} (v : ValI n) {k : Nat} (hk : k < n.2.1.length) : takeI n k = (n.2.2.getD k [], (n.1, n.2.1, n.2.2.set k [])) := by
  rw [takeI, if_pos (show hasI n k = true from decide_eq_true ⟨whole_of v, by omega, by omega⟩)]; rfl
theorem take_check {n : Inn} (h : checkI n = 0) {k : Nat} (hk : k < n.2.1.length) : checkI (takeI n k).2 = 0 := by
  have v := valI h
  have w1 := v.w1
  rw [take_eq v hk]
  dsimp only
  have hw : wholeI (n.1, n.2.1, n.2.2.set k []) = true := wholeI_iff.2 ⟨by dsimp only; rw [List.length_set]; exact v.w1, v.w2⟩
  rw [val_ok hw v.k2 v.k6 (pivE_ok v.ps v.up) v.ks, if_neg]
  · rw [sizeI, if_pos hw]
    have h1 := kbs_take_le (ps := n.1) (ks := n.2.1) (bs := n.2.2) (k := k) (by omega) n.2.1.length
    have h2 : (layI (n.1, n.2.1, n.2.2)).length ≤ 1016 := v.sz
    rw [layI, List.length_append] at h2 ⊢
    dsimp only at h2 ⊢
    omega
  · refine waitE_ok fun i hi m hm => ?_
    dsimp only at hi hm
    rw [List.length_set] at hi
    rw [getD_set (by omega)] at hm
    split at hm
    · exact absurd hm (by simp)
    · have := ew_inv v.wt hi hm; exact ew_ok this.1 this.2
theorem take_weigh {n : Inn} (v : ValI n) {k : Nat} (hk : k < n.2.1.length) : weighI (takeI n k).2 k = 0 := by
  have w1 := v.w1
  rw [take_eq v hk, weighI]
  dsimp only
  split
  · rw [Int.toNat_natCast, getD_set (by omega), if_pos rfl]; rfl
  · rfl
def grown (n : Inn) (k : Nat) (key : List UInt8) : Inn := (insK k key n.1, insK (k + 1) 6 (n.2.1.set k 5), insK (k + 1) [] (n.2.2.set k []))
theorem grow_eq {n : Inn} (v : ValI n) {k : Nat} (hk : k < n.2.1.length) {key : List UInt8} : growI (renewI (takeI n k).2 k 5) k 6 key = grown n k key := by
  have w1 := v.w1
  have hw : wholeI (n.1, n.2.1, n.2.2.set k []) = true := wholeI_iff.2 ⟨by dsimp only; rw [List.length_set]; exact v.w1, v.w2⟩
  have hw2 : wholeI (n.1, n.2.1.set k 5, n.2.2.set k []) = true := wholeI_iff.2 ⟨by dsimp only; rw [List.length_set, List.length_set]; exact v.w1, by dsimp only; rw [List.length_set]; exact v.w2⟩
  rw [take_eq v hk]
  dsimp only
  rw [renewI, if_pos (show hasI (n.1, n.2.1, n.2.2.set k []) k = true from decide_eq_true ⟨hw, by omega, by dsimp only; omega⟩), growI]
  dsimp only
  rw [Int.toNat_natCast, if_pos (show hasI (n.1, n.2.1.set k 5, n.2.2.set k []) k = true from decide_eq_true ⟨hw2, by omega, by dsimp only; rw [List.length_set]; omega⟩)]
  rfl
theorem lo_eq {n : Inn} (v : ValI n) {k : Nat} (hk : k < n.2.1.length) (h : 0 < k) : loI n k = n.1.getD (k - 1) [] := by
  have w2 := v.w2
  rw [loI, if_pos ⟨by omega, by omega, by omega⟩]; rfl
theorem hi_eq {n : Inn} (v : ValI n) {k : Nat} (hk : k < n.1.length) : hiI n k = n.1.getD k [] := by
  have w2 := v.w2
  rw [hiI, if_pos ⟨by omega, by omega, by omega⟩]; rfl
theorem grow_rs {n : Inn} (v : ValI n) {k : Nat} (hk : k < n.2.1.length) {key : List UInt8} (h1 : loI n k < key) (h2 : hiI n k = [] ∨ key < hiI n k) : Rs (insK k key n.1) ∧ (k < n.1.length → key < n.1.getD k []) ∧ ¬ key = [] := by
  obtain ⟨hr, h0⟩ := val_rs v
  have w2 := v.w2
  have hh : k < n.1.length → key < n.1.getD k [] := fun h => by
    rw [hi_eq v h] at h2
    rcases h2 with h2 | h2
    · exact absurd h2 (h0 _ (by rw [getD_in h]; exact List.getElem_mem h))
    · exact h2
  refine ⟨insK_rs hr (by omega) (fun h => by rw [← lo_eq v hk h]; exact h1) hh, hh, fun e => ?_⟩
  rw [e] at h1
  generalize loI n k = a at h1
  cases a <;> cases h1
theorem grow_route {n : Inn} (v : ValI n) {k : Nat} (hk : k < n.2.1.length) {key : List UInt8} (h1 : loI n k < key) (h2 : hiI n k = [] ∨ key < hiI n k) : routeI (grown n k key).1 key = k + 1 := by
  obtain ⟨hr, hh, -⟩ := grow_rs v hk h1 h2
  have w2 := v.w2
  refine route_eq hr (by rw [insK_len (by omega)]; omega) (fun _ => ?_) (fun h => ?_)
  · rw [Nat.add_sub_cancel, insK_at _ (by omega)]; exact slt_irrefl _
  · rw [insK_len (by omega)] at h
    rw [insK_hi _ (by omega) (by omega), Nat.add_sub_cancel]
    exact hh (by omega)
theorem grow_check {n : Inn} (h : checkI n = 0) {k : Nat} (hk : k < n.2.1.length) {key : List UInt8} (hl : key.length ≤ 16) (h1 : loI n k < key) (h2 : hiI n k = [] ∨ key < hiI n k) :
    (grown n k key).2.1.length = n.2.1.length + 1 ∧ checkI (grown n k key) = if 6 < (grown n k key).2.1.length then 4 else if 1016 < sizeI (grown n k key) then 5 else 0 := by
  have v := valI h
  obtain ⟨hr, hh, hne⟩ := grow_rs v hk h1 h2
  obtain ⟨hr0, hn0⟩ := val_rs v
  have w1 := v.w1
  have w2 := v.w2
  have hlen : (grown n k key).2.1.length = n.2.1.length + 1 := by rw [grown]; dsimp only; rw [insK_len (by rw [List.length_set]; omega), List.length_set]
  refine ⟨hlen, ?_⟩
  by_cases h6 : 6 < (grown n k key).2.1.length
  · rw [if_pos h6, checkI_form (.inr (.inr h6))]
  rw [if_neg h6]
  have hw : wholeI (grown n k key) = true := wholeI_iff.2 ⟨by rw [hlen, grown]; dsimp only; rw [insK_len (by rw [List.length_set]; omega), List.length_set, w1], by rw [hlen, grown]; dsimp only; rw [insK_len (by omega)]; omega⟩
  refine val_ok hw (by have := v.k2; omega) (by omega) (pivE_ok (fun p hp => ?_) (rs_upT hr fun p hp => ?_)) (fun x hx => ?_) ?_
  · rcases insK_mem hp with rfl | hp
    · exact hl
    · exact v.ps p hp
  · rcases insK_mem hp with rfl | hp
    · exact hne
    · exact hn0 p hp
  · rcases insK_mem hx with rfl | hx
    · decide
    · rcases List.mem_or_eq_of_mem_set hx with hx | rfl
      · exact v.ks x hx
      · decide
  refine waitE_ok fun i hi m hm => ?_
  rw [grown] at hi hm ⊢
  dsimp only at hi hm
  rw [insK_len (by rw [List.length_set]; omega), List.length_set] at hi
  have hbl : k + 1 ≤ (n.2.2.set k []).length := by rw [List.length_set]; omega
  rcases Nat.lt_trichotomy i (k + 1) with h3 | rfl | h3
  · rw [insK_lo _ hbl h3, getD_set (by omega)] at hm
    split at hm
    · exact absurd hm (by simp)
    · have hq := ew_inv v.wt (i := i) (by omega) hm
      refine ew_ok hq.1 fun h0 => ?_
      have hrt := hq.2 h0
      refine route_eq hr (by (try dsimp only); rw [insK_len (by omega)]; omega) (fun h4 => ?_) (fun h4 => ?_)
      · try dsimp only
        rw [insK_lo _ (by omega) (by omega), ← hrt]
        exact route_lo hr0 (by omega)
      · try dsimp only
        rw [insK_lo _ (by omega) (by omega), ← hrt]
        exact route_hi hr0 (by omega)
  · rw [insK_at _ hbl] at hm
    exact absurd hm (by simp)
  · rw [insK_hi _ hbl h3, getD_set (by omega), if_neg (by omega)] at hm
    have hq := ew_inv v.wt (i := i - 1) (by omega) hm
    refine ew_ok hq.1 fun h0 => ?_
    have hrt := hq.2 h0
    refine route_eq hr (by (try dsimp only); rw [insK_len (by omega)]; omega) (fun h4 => ?_) (fun h4 => ?_)
    · try dsimp only
      rw [insK_hi _ (by omega) (by omega), ← hrt]
      exact route_lo hr0 (by omega)
    · try dsimp only at h4 ⊢
      rw [insK_len (by omega)] at h4
      rw [insK_hi _ (by omega) (by omega), ← hrt]
      exact route_hi hr0 (by omega)
end Go.Proofs.Ytoedpnniaikfbaa
