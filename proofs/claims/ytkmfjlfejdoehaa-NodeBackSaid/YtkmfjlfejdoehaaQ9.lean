import Derived.Test.YtkmfjlfejdoehaaQ8
import Derived.Test.YtkmfjlfejdoehaaQ7
import Derived.Test.YtkmfjlfejdoehaaEng4
/- Texts, one behind the other. -/
set_option linter.unusedVariables false
set_option linter.unusedSimpArgs false
set_option maxRecDepth 8000
set_option maxHeartbeats 4000000
namespace Go.Proofs.Ytkmfjlfejdoehaa
open Go.Eng
def sEqualS : PSpec := ⟨[.d (.slice .str), .d (.slice .str)], [⟨false, [.d .bool]⟩], fun _ => True, fun x => ((decide ((x.1 : List S8) = x.2.1), ()), ())⟩
theorem fEqualS : FnOk Try.prog 76 := ⟨_, Try.func76, by decide, rfl⟩
theorem pEqualS : PSound Try.prog 76 sEqualS := by
  refine psound (T := tab) (S := (spOf [])) (keep := k76) (by kernel_rfl) tabOk spNil (by kernel_rfl) Try.func76 (by kernel_rfl) (by decide) fun xs hg hp => ?_
  obtain ⟨xs, ys, ⟨⟩⟩ := xs
  obtain ⟨⟨hl, -⟩, ⟨hl2, -⟩, -⟩ := hg
  have hl := len63 hl
  have hl2 := len63 hl2
  change List S8 at xs ys
  change xs.length ≤ _ at hl
  change ys.length ≤ _ at hl2
  clear hp
  show vfun tab _ k76 Try.f76 [.sl .str xs, .sl .str ys] [] _
  refine Ev.out ?_
  repeat' (first | ((with_reducible refine Ev.mk ?_); conv => whnf) | (with_reducible refine And.intro ?_ ?_) | (intro h))
  all_goals (try simp only [decide_eq_true_eq, decide_eq_false_iff_not, beq_iff_eq, bne_iff_ne, beq_eq_false_iff_ne, bne_eq_false_iff_eq, Int.toNat_natCast, ge_iff_le, gt_iff_lt, Bool.not_eq_true', Bool.not_eq_false', Int.not_lt, Int.not_le, ne_eq] at *)
  all_goals (try dsimp only [Ty.den, Ty.dflt, .str] at *)
  all_goals (try simp only [eq4, ne4, eq3, ne3, eq2, ne2, Prod.eta, List.length_cons, List.length_nil, List.length_append, Nat.zero_add] at *)
  all_goals (try simp (disch := omega) only [wrap64] at *)
  · refine Leaf.mk (ret1 (show false = decide (xs = ys) from ?_))
    rw [eq_comm, decide_eq_false_iff_not]; intro hc; subst hc; omega
  refine LoopVC.on (fun i : Nat => [(13, .i .i64 i)]) (fun _ => []) (fun i => i ≤ xs.length ∧ xs.take i = ys.take i) (fun i => xs.length - i) 0 rfl ⟨by omega, by simp⟩ ?_
  intro i ⟨hi, he⟩
  repeat' (first | ((with_reducible refine Ev.mk ?_); conv => whnf) | (with_reducible refine And.intro ?_ ?_) | (intro h))
  all_goals (try simp only [decide_eq_true_eq, decide_eq_false_iff_not, beq_iff_eq, bne_iff_ne, beq_eq_false_iff_ne, bne_eq_false_iff_eq, Int.toNat_natCast, ge_iff_le, gt_iff_lt, Bool.not_eq_true', Bool.not_eq_false', Int.not_lt, Int.not_le, ne_eq] at *)
  all_goals (try dsimp only [Ty.den, Ty.dflt, .str] at *)
  all_goals (try simp only [eq4, ne4, eq3, ne3, eq2, ne2, Prod.eta, List.length_cons, List.length_nil, List.length_append, Nat.zero_add] at *)
  all_goals (try simp (disch := omega) only [wrap64] at *)
  all_goals try first | exact leafDraw (by kernel_rfl) | exact Leaf.mk trivial | (refine Leaf.mk ?_; omega) | (refine Leaf.mk ?_; unfold maxLen; omega)
  all_goals try rw [eq6] at h
  all_goals try rw [ne6] at h
  all_goals first
    | exact Leaf.mk (ret1 (show false = decide (xs = ys) by rw [eq_comm, decide_eq_false_iff_not]; exact same_not [] h))
    | exact Leaf.mk ⟨i + 1, rfl, ⟨by omega, same_step [] (by omega) he (by omega) h⟩, by omega⟩
    | exact Leaf.mk (ret1 (show true = decide (xs = ys) by rw [eq_comm, decide_eq_true_eq]; exact same_end (by omega) he (by omega)))
def sEqualI : PSpec := ⟨[.d (.slice I64T), .d (.slice I64T)], [⟨false, [.d .bool]⟩], fun _ => True, fun x => ((decide ((x.1 : List Int) = x.2.1), ()), ())⟩
theorem fEqualI : FnOk Try.prog 77 := ⟨_, Try.func77, by decide, rfl⟩
theorem pEqualI : PSound Try.prog 77 sEqualI := by
  refine psound (T := tab) (S := (spOf [])) (keep := k77) (by kernel_rfl) tabOk spNil (by kernel_rfl) Try.func77 (by kernel_rfl) (by decide) fun xs hg hp => ?_
  obtain ⟨xs, ys, ⟨⟩⟩ := xs
  obtain ⟨⟨hl, -⟩, ⟨hl2, -⟩, -⟩ := hg
  have hl := len63 hl
  have hl2 := len63 hl2
  change List Int at xs ys
  change xs.length ≤ _ at hl
  change ys.length ≤ _ at hl2
  clear hp
  show vfun tab _ k77 Try.f77 [.sl I64T xs, .sl I64T ys] [] _
  refine Ev.out ?_
  repeat' (first | ((with_reducible refine Ev.mk ?_); conv => whnf) | (with_reducible refine And.intro ?_ ?_) | (intro h))
  all_goals (try simp only [decide_eq_true_eq, decide_eq_false_iff_not, beq_iff_eq, bne_iff_ne, beq_eq_false_iff_ne, bne_eq_false_iff_eq, Int.toNat_natCast, ge_iff_le, gt_iff_lt, Bool.not_eq_true', Bool.not_eq_false', Int.not_lt, Int.not_le, ne_eq] at *)
  all_goals (try dsimp only [Ty.den, Ty.dflt, I64T] at *)
  all_goals (try simp only [eq4, ne4, eq3, ne3, eq2, ne2, Prod.eta, List.length_cons, List.length_nil, List.length_append, Nat.zero_add] at *)
  all_goals (try simp (disch := omega) only [wrap64] at *)
  · refine Leaf.mk (ret1 (show false = decide (xs = ys) from ?_))
    rw [eq_comm, decide_eq_false_iff_not]; intro hc; subst hc; omega
  refine LoopVC.on (fun i : Nat => [(13, .i .i64 i)]) (fun _ => []) (fun i => i ≤ xs.length ∧ xs.take i = ys.take i) (fun i => xs.length - i) 0 rfl ⟨by omega, by simp⟩ ?_
  intro i ⟨hi, he⟩
  repeat' (first | ((with_reducible refine Ev.mk ?_); conv => whnf) | (with_reducible refine And.intro ?_ ?_) | (intro h))
  all_goals (try simp only [decide_eq_true_eq, decide_eq_false_iff_not, beq_iff_eq, bne_iff_ne, beq_eq_false_iff_ne, bne_eq_false_iff_eq, Int.toNat_natCast, ge_iff_le, gt_iff_lt, Bool.not_eq_true', Bool.not_eq_false', Int.not_lt, Int.not_le, ne_eq] at *)
  all_goals (try dsimp only [Ty.den, Ty.dflt, I64T] at *)
  all_goals (try simp only [eq4, ne4, eq3, ne3, eq2, ne2, Prod.eta, List.length_cons, List.length_nil, List.length_append, Nat.zero_add] at *)
  all_goals (try simp (disch := omega) only [wrap64] at *)
  all_goals try first | exact leafDraw (by kernel_rfl) | exact Leaf.mk trivial | (refine Leaf.mk ?_; omega) | (refine Leaf.mk ?_; unfold maxLen; omega)
  all_goals try rw [eq6] at h
  all_goals try rw [ne6] at h
  all_goals first
    | exact Leaf.mk (ret1 (show false = decide (xs = ys) by rw [eq_comm, decide_eq_false_iff_not]; exact same_not 0 h))
    | exact Leaf.mk ⟨i + 1, rfl, ⟨by omega, same_step 0 (by omega) he (by omega) h⟩, by omega⟩
    | exact Leaf.mk (ret1 (show true = decide (xs = ys) by rw [eq_comm, decide_eq_true_eq]; exact same_end (by omega) he (by omega)))
def sEqualM : PSpec := ⟨[.d (.slice MsgT), .d (.slice MsgT)], [⟨false, [.d .bool]⟩], fun _ => True, fun x => ((decide ((x.1 : List Msg) = x.2.1), ()), ())⟩
theorem fEqualM : FnOk Try.prog 79 := ⟨_, Try.func79, by decide, rfl⟩
theorem pEqualM : PSound Try.prog 79 sEqualM := by
  refine psound (T := tab) (S := (spOf [])) (keep := k79) (by kernel_rfl) tabOk spNil (by kernel_rfl) Try.func79 (by kernel_rfl) (by decide) fun xs hg hp => ?_
  obtain ⟨xs, ys, ⟨⟩⟩ := xs
  obtain ⟨⟨hl, -⟩, ⟨hl2, -⟩, -⟩ := hg
  have hl := len63 hl
  have hl2 := len63 hl2
  change List Msg at xs ys
  change xs.length ≤ _ at hl
  change ys.length ≤ _ at hl2
  clear hp
  show vfun tab _ k79 Try.f79 [.sl MsgT xs, .sl MsgT ys] [] _
  refine Ev.out ?_
  repeat' (first | ((with_reducible refine Ev.mk ?_); conv => whnf) | (with_reducible refine And.intro ?_ ?_) | (intro h))
  all_goals (try simp only [decide_eq_true_eq, decide_eq_false_iff_not, beq_iff_eq, bne_iff_ne, beq_eq_false_iff_ne, bne_eq_false_iff_eq, Int.toNat_natCast, ge_iff_le, gt_iff_lt, Bool.not_eq_true', Bool.not_eq_false', Int.not_lt, Int.not_le, ne_eq] at *)
  all_goals (try dsimp only [Ty.den, Ty.dflt, MsgT] at *)
  all_goals (try simp only [eq4, ne4, eq3, ne3, eq2, ne2, Prod.eta, List.length_cons, List.length_nil, List.length_append, Nat.zero_add] at *)
  all_goals (try simp (disch := omega) only [wrap64] at *)
  · refine Leaf.mk (ret1 (show false = decide (xs = ys) from ?_))
    rw [eq_comm, decide_eq_false_iff_not]; intro hc; subst hc; omega
  refine LoopVC.on (fun i : Nat => [(13, .i .i64 i)]) (fun _ => []) (fun i => i ≤ xs.length ∧ xs.take i = ys.take i) (fun i => xs.length - i) 0 rfl ⟨by omega, by simp⟩ ?_
  intro i ⟨hi, he⟩
  repeat' (first | ((with_reducible refine Ev.mk ?_); conv => whnf) | (with_reducible refine And.intro ?_ ?_) | (intro h))
  all_goals (try simp only [decide_eq_true_eq, decide_eq_false_iff_not, beq_iff_eq, bne_iff_ne, beq_eq_false_iff_ne, bne_eq_false_iff_eq, Int.toNat_natCast, ge_iff_le, gt_iff_lt, Bool.not_eq_true', Bool.not_eq_false', Int.not_lt, Int.not_le, ne_eq] at *)
  all_goals (try dsimp only [Ty.den, Ty.dflt, MsgT] at *)
  all_goals (try simp only [eq4, ne4, eq3, ne3, eq2, ne2, Prod.eta, List.length_cons, List.length_nil, List.length_append, Nat.zero_add] at *)
  all_goals (try simp (disch := omega) only [wrap64] at *)
  all_goals try first | exact leafDraw (by kernel_rfl) | exact Leaf.mk trivial | (refine Leaf.mk ?_; omega) | (refine Leaf.mk ?_; unfold maxLen; omega)
  all_goals try rw [eq6] at h
  all_goals try rw [ne6] at h
  all_goals first
    | exact Leaf.mk (ret1 (show false = decide (xs = ys) by rw [eq_comm, decide_eq_false_iff_not]; exact same_not msg0 h))
    | exact Leaf.mk ⟨i + 1, rfl, ⟨by omega, same_step msg0 (by omega) he (by omega) h⟩, by omega⟩
    | exact Leaf.mk (ret1 (show true = decide (xs = ys) by rw [eq_comm, decide_eq_true_eq]; exact same_end (by omega) he (by omega)))
instance decBufs : DecidableEq (List (List Msg)) := inferInstance
instance decInn2 : DecidableEq (List Int × List (List Msg)) := inferInstance
instance decInn : DecidableEq Inn := inferInstanceAs (DecidableEq (List (List UInt8) × List Int × List (List Msg)))
def sameI (a b : Inn) : Bool := decide (a = b)
theorem sameI_no {a b : Inn} (h : ¬ a = b) : false = sameI a b := (decide_eq_false h).symm
theorem sameI_yes {a b : Inn} (h1 : a.1 = b.1) (h2 : a.2.1 = b.2.1) (h3 : a.2.2 = b.2.2) : true = sameI a b := (decide_eq_true (by obtain ⟨x, y, z⟩ := a; obtain ⟨u, v, w⟩ := b; dsimp only at *; rw [h1, h2, h3])).symm
def sISame : PSpec := ⟨[.d InT, .d InT], [⟨false, [.d .bool]⟩], fun x => List.length x.1.2.1 ≤ 100000 ∧ List.length x.1.2.2 ≤ 100000, fun x => ((sameI x.1 x.2.1, ()), ())⟩
theorem fEqFM : FnOk Try.prog 78 := ⟨_, Try.func78, by decide, rfl⟩
noncomputable def iEqFM : Eng.Spec := inl tab (spOf [(79, sEqualM.spec (lsOf []))]) k78 Try.f78
theorem pEqFM : SpecOk Try.prog 78 iEqFM := inl_ok tabOk (spCons (pOk pEqualM fEqualM (by decide) lsNil) spNil) (by kernel_rfl) Try.func78 (by kernel_rfl)
theorem fISame : FnOk Try.prog 45 := ⟨_, Try.func45, by decide, rfl⟩
theorem pISame : PSound Try.prog 45 sISame := by
  refine psound (T := tab) (S := (spOf [(76, sEqualS.spec (lsOf [])), (77, sEqualI.spec (lsOf [])), (78, iEqFM), (79, sEqualM.spec (lsOf []))])) (keep := k45) (by kernel_rfl) tabOk (spCons (pOk pEqualS fEqualS (by decide) lsNil) (spCons (pOk pEqualI fEqualI (by decide) lsNil) (spCons (.inl ⟨pEqFM, fEqFM⟩) (spCons (pOk pEqualM fEqualM (by decide) lsNil) spNil)))) (by kernel_rfl) Try.func45 (by kernel_rfl) (by decide) fun xs hg hp => ?_
  obtain ⟨⟨ps, ks, bs⟩, ⟨ps1, ks1, bs1⟩, ⟨⟩⟩ := xs
  clear hg
  change List (List UInt8) at ps ps1
  change List Int at ks ks1
  change List (List Msg) at bs bs1
  change ks.length ≤ 100000 ∧ bs.length ≤ 100000 at hp
  obtain ⟨hk, hb⟩ := hp
  show vfun tab _ k45 Try.f45 [.agg [.sl .str ps, .sl (.int .i64) ks, .sl (.slice MsgT) bs], .agg [.sl .str ps1, .sl (.int .i64) ks1, .sl (.slice MsgT) bs1]] [] _
  refine Ev.out ?_
  repeat' (first | ((with_reducible refine Ev.mk ?_); conv => whnf) | (with_reducible refine And.intro ?_ ?_) | (intro h))
  all_goals (try simp only [decide_eq_true_eq, decide_eq_false_iff_not, beq_iff_eq, bne_iff_ne, beq_eq_false_iff_ne, bne_eq_false_iff_eq, Int.toNat_natCast, ge_iff_le, gt_iff_lt, Bool.not_eq_true', Bool.not_eq_false', Int.not_lt, Int.not_le, ne_eq] at *)
  all_goals (try dsimp only [Ty.den, Ty.dflt, InT, sEqualS, sEqualI] at *)
  all_goals (try simp only [eq4, ne4, eq3, ne3, eq2, ne2, Prod.eta, List.length_cons, List.length_nil, List.length_append, Nat.zero_add] at *)
  all_goals (try simp (disch := omega) only [wrap64] at *)
  all_goals try first | exact leafDraw (by kernel_rfl) | exact Leaf.mk trivial | (refine Leaf.mk ?_; omega) | (refine Leaf.mk ?_; unfold maxLen; omega)
  all_goals try first
    | exact Leaf.mk (ret1 (show false = sameI (ps, ks, bs) (ps1, ks1, bs1) from sameI_no fun h9 => of_decide_eq_false (show decide (ps = ps1) = false from ‹_›) (congrArg (·.1) h9)))
    | exact Leaf.mk (ret1 (show false = sameI (ps, ks, bs) (ps1, ks1, bs1) from sameI_no fun h9 => of_decide_eq_false (show decide (ks = ks1) = false from ‹_›) (congrArg (·.2.1) h9)))
    | (refine Leaf.mk (ret1 (show false = sameI (ps, ks, bs) (ps1, ks1, bs1) from sameI_no fun h9 => ?_)); have := congrArg (·.2.2.length) h9; dsimp only at this; omega)
  have hps : ps = ps1 := of_decide_eq_true (show decide (ps = ps1) = true from ‹_›)
  have hks : ks = ks1 := of_decide_eq_true (show decide (ks = ks1) = true from ‹_›)
  refine LoopVC.on (fun i : Nat => [(17, .i .i64 i)]) (fun _ => []) (fun i => i ≤ bs.length ∧ bs.take i = bs1.take i) (fun i => bs.length - i) 0 rfl ⟨by omega, by simp⟩ ?_
  intro i ⟨hi, he⟩
  repeat' (first | ((with_reducible refine Ev.mk ?_); conv => whnf) | (with_reducible refine And.intro ?_ ?_) | (intro h))
  all_goals (try simp only [decide_eq_true_eq, decide_eq_false_iff_not, beq_iff_eq, bne_iff_ne, beq_eq_false_iff_ne, bne_eq_false_iff_eq, Int.toNat_natCast, ge_iff_le, gt_iff_lt, Bool.not_eq_true', Bool.not_eq_false', Int.not_lt, Int.not_le, ne_eq] at *)
  all_goals (try dsimp only [Ty.den, Ty.dflt, InT, sEqualM] at *)
  all_goals (try simp only [eq4, ne4, eq3, ne3, eq2, ne2, Prod.eta, List.length_cons, List.length_nil, List.length_append, Nat.zero_add] at *)
  all_goals (try simp (disch := omega) only [wrap64] at *)
  all_goals try first | exact leafDraw (by kernel_rfl) | exact Leaf.mk trivial | (refine Leaf.mk ?_; omega) | (refine Leaf.mk ?_; unfold maxLen; omega)
  all_goals try first
    | exact Leaf.mk (ret1 (show false = sameI (ps, ks, bs) (ps1, ks1, bs1) from sameI_no fun h9 => same_not [] (of_decide_eq_false (show decide (bs.getD i [] = bs1.getD i []) = false from ‹_›)) (congrArg (·.2.2) h9)))
    | exact Leaf.mk ⟨i + 1, rfl, ⟨by omega, same_step [] (by omega) he (by omega) (of_decide_eq_true (show decide (bs.getD i [] = bs1.getD i []) = true from ‹_›))⟩, by omega⟩
    | exact Leaf.mk (ret1 (show true = sameI (ps, ks, bs) (ps1, ks1, bs1) from sameI_yes hps hks (show bs = bs1 from same_end (by omega) he (by omega))))
end Go.Proofs.Ytkmfjlfejdoehaa

set_option linter.unusedVariables false
set_option linter.unusedSimpArgs false
set_option maxRecDepth 8000
set_option maxHeartbeats 4000000
namespace Go.Proofs.Ytkmfjlfejdoehaa
open Go.Eng
def rdKey (k : Int) (r : List Int) : List UInt8 × List Int × Int := if k = 0 then rdText r 0 16 else ([], r, 0)
def rdTxn (k : Int) (p : List Int × Int) : Int × List Int × Int := if k = 0 ∨ k = 1 ∨ k = 2 then rdSmall p.1 p.2 else (0, p)
def rdTs (k : Int) (p : List Int × Int) : Int × List Int × Int := if k = 1 ∨ k = 3 then rdSmall p.1 p.2 else (0, p)
def readM (k : Int) (r : List Int) : Msg :=
  let t := rdTs k (rdTxn k (rdKey k r).2).2
  (k, (rdKey k r).1, (rdTxn k (rdKey k r).2).1, t.1, if k = 0 ∧ 0 < t.2.1.length then (t.2.1.getD 0 0 == 1, (rdText (t.2.1.drop 1) 0 24).1) else (false, []))
def preB : List Int → List Int → Bool
  | [], _ => true
  | _ :: _, [] => false
  | a :: r, b :: s => decide (a = b) && preB r s
theorem preB_iff : ∀ (a b : List Int), preB a b = true ↔ a <+: b
  | [], b => by simp [preB]
  | a :: r, [] => by simp [preB]
  | a :: r, b :: s => by
    rw [preB, Bool.and_eq_true, decide_eq_true_eq, preB_iff r s, List.cons_prefix_cons]
def getM (b : List Int) : Msg × Int × Int := match b with
  | [] => (msg0, 0, 4)
  | k :: r => if mcheck (readM k r) = 0 ∧ preB (putM (readM k r)) (k :: r) = true then (readM k r, (((putM (readM k r)).length : Nat) : Int), 0) else (msg0, 0, 4)
def tailM (m : Msg) (s : List Int) : List Int := (if m.1 = 0 then gvB m.2.2.2.2.1 m.2.2.2.2.2 else []) ++ s
structure RdOk (m : Msg) (r s : List Int) : Prop where
  key : rdKey m.1 r = (m.2.1, (rdKey m.1 r).2.1, 0)
  txn : rdTxn m.1 (rdKey m.1 r).2 = (m.2.2.1, (rdTxn m.1 (rdKey m.1 r).2).2.1, 0)
  ts : rdTs m.1 (rdTxn m.1 (rdKey m.1 r).2).2 = (m.2.2.2.1, tailM m s, 0)
  all : readM m.1 r = m
theorem readM_put {m : Msg} (h0 : 0 ≤ m.1) (h : mcheck m = 0) (s : List Int) : ∃ r, putM m ++ s = m.1 :: r ∧ RdOk m r s := by
  have ok := mcheck_ok h
  obtain ⟨kind, key, txn, ts, gone, val⟩ := m
  have hk1 := ok.key
  have hv1 := ok.val
  have hk2 := ok.kind
  have ht1 := ok.txn
  have ht2 := ok.ts
  have hf := ok.form
  dsimp only [mForm] at *
  have hkey := fun r => rdText_put (k := key) (m := 16) (by omega) r
  have htxn := fun r => rdSmall_put (n := txn) ht1.1 ht1.2 r
  have hts := fun r => rdSmall_put (n := ts) ht2.1 ht2.2 r
  have hval := fun r => rdText_put (k := val) (m := 24) (by omega) r
  refine ⟨_, rfl, ?_⟩
  rcases (by omega : kind = 0 ∨ kind = 1 ∨ kind = 2 ∨ kind = 3) with rfl | rfl | rfl | rfl
  · have hts0 : ts = 0 := hf.2.2.1 (.inl rfl)
    subst hts0
    constructor
    all_goals simp [rdKey, rdTxn, rdTs, readM, tailM, hkey, htxn]
    rw [gvB]
    cases gone <;> simp [hval]
  · obtain ⟨rfl, h2, h3⟩ : gone = false ∧ key = [] ∧ val = [] := by
      rcases hf.1 with h | h
      · omega
      · exact ⟨h.1, List.eq_nil_of_length_eq_zero h.2.1, List.eq_nil_of_length_eq_zero h.2.2⟩
    subst h2 h3
    constructor <;> simp [rdKey, rdTxn, rdTs, readM, tailM, htxn, hts]
  · obtain ⟨rfl, h2, h3⟩ : gone = false ∧ key = [] ∧ val = [] := by
      rcases hf.1 with h | h
      · omega
      · exact ⟨h.1, List.eq_nil_of_length_eq_zero h.2.1, List.eq_nil_of_length_eq_zero h.2.2⟩
    have hts0 : ts = 0 := hf.2.2.1 (.inr rfl)
    subst h2 h3 hts0
    constructor <;> simp [rdKey, rdTxn, rdTs, readM, tailM, htxn, hts]
  · obtain ⟨rfl, h2, h3⟩ : gone = false ∧ key = [] ∧ val = [] := by
      rcases hf.1 with h | h
      · omega
      · exact ⟨h.1, List.eq_nil_of_length_eq_zero h.2.1, List.eq_nil_of_length_eq_zero h.2.2⟩
    have htx0 : txn = 0 := hf.2.1 rfl
    subst h2 h3 htx0
    constructor <;> simp [rdKey, rdTxn, rdTs, readM, tailM, htxn, hts]
theorem getM_put {m : Msg} {b : List Int} (h0 : 0 ≤ m.1) (h : mcheck m = 0) (hb : putM m <+: b) : getM b = (m, (((putM m).length : Nat) : Int), 0) := by
  obtain ⟨s, rfl⟩ := hb
  obtain ⟨r, hr, q⟩ := readM_put h0 h s
  rw [hr, getM]
  rw [q.all, if_pos ⟨h, (preB_iff _ _).2 ⟨s, hr⟩⟩]
theorem getM_not {b : List Int} (hB : isB b) (hn : ∀ m : Msg, 0 ≤ m.1 → mcheck m = 0 → ¬ putM m <+: b) : getM b = (msg0, 0, 4) := by
  cases b with
  | nil => rfl
  | cons k r =>
    rw [getM, if_neg]
    intro hc
    exact hn (readM k r) (show 0 ≤ k from (hB k List.mem_cons_self).1) hc.1 ((preB_iff _ _).1 hc.2)
theorem getM_end {b : List Int} {m : Msg} (hB : isB b) (h0 : 0 ≤ m.1) (hu : ∀ x : Msg, 0 ≤ x.1 → mcheck x = 0 → putM x <+: b → m = x) :
    getM b = if mcheck m = 0 ∧ putM m <+: b then (m, (((putM m).length : Nat) : Int), 0) else (msg0, 0, 4) := by
  split
  · rename_i h; exact getM_put h0 h.1 h.2
  · rename_i h
    refine getM_not hB fun x hx0 hx hp => h ?_
    have := hu x hx0 hx hp
    subst this
    exact ⟨hx, hp⟩
theorem putR12_zero {m : Msg} (h : (putR12 m).2 = 0) : mcheck m = 0 ∧ (putR12 m).1 = putM m := by
  unfold putR12 at h ⊢
  split at h
  · rename_i hc; rw [if_pos hc]; exact ⟨hc, rfl⟩
  · rename_i hc; exact absurd h hc
theorem putR12_not {m : Msg} (h : ¬ (putR12 m).2 = 0) : ¬ mcheck m = 0 := fun hc => h (by unfold putR12; rw [if_pos hc])
def hasPre (b c : List Int) : Bool := decide (c.length ≤ b.length) && (strOfBytes (b.take c.length) == strOfBytes c)
theorem pre_str {b c : List Int} (hb : isB b) (hc : isB c) : strOfBytes c = strOfBytes (b.take c.length) ↔ c <+: b := by
  constructor
  · intro h
    rw [str_inj hc (isB_take hb _) h]; exact List.take_prefix _ _
  · intro h
    rw [← List.prefix_iff_eq_take.1 h]
theorem hasPre_iff {b c : List Int} (hb : isB b) (hc : isB c) : hasPre b c = true ↔ c <+: b := by
  rw [hasPre, str_eq (isB_take hb _) hc, Bool.and_eq_true, decide_eq_true_eq, decide_eq_true_eq]
  constructor
  · intro h; rw [← h.2]; exact List.take_prefix _ _
  · intro h; exact ⟨h.length_le, (List.prefix_iff_eq_take.1 h).symm⟩
structure GetFin (b : List Int) (m : Msg) : Prop where
  bad : ¬ (putR12 m).2 = 0 → ((msg0, 0, 4) : Msg × Int × Int) = getM b
  nol : (putR12 m).2 = 0 → (b.length : Int) < (putR12 m).1.length → ((msg0, 0, 4) : Msg × Int × Int) = getM b
  nos : (putR12 m).2 = 0 → ¬ strOfBytes (putR12 m).1 = strOfBytes (b.take (putR12 m).1.length) → ((msg0, 0, 4) : Msg × Int × Int) = getM b
  yess : (putR12 m).2 = 0 → strOfBytes (putR12 m).1 = strOfBytes (b.take (putR12 m).1.length) → (m, (((putR12 m).1.length : Nat) : Int), 0) = getM b
  nop : (putR12 m).2 = 0 → hasPre b (putR12 m).1 = false → ((msg0, 0, 4) : Msg × Int × Int) = getM b
  yesp : (putR12 m).2 = 0 → hasPre b (putR12 m).1 = true → (m, (((putR12 m).1.length : Nat) : Int), 0) = getM b
theorem fin_of {k : Int} {r : List Int} {m : Msg} (hB : isB (k :: r)) (hk : m.1 = k) (hu : ∀ (x : Msg) (s : List Int), x.1 = k → MsgOk x → RdOk x r s → m = readM k r) : GetFin (k :: r) m := by
  have h0 : 0 ≤ m.1 ∧ m.1 ≤ 255 := by rw [hk]; exact hB k List.mem_cons_self
  have e := getM_end hB h0.1 (fun x hx0 hx hp => by
    obtain ⟨s, hs⟩ := hp
    obtain ⟨r', hr, q⟩ := readM_put hx0 hx s
    rw [hs] at hr
    injection hr with h1 h2
    subst h2
    exact (hu x s h1.symm (mcheck_ok hx) q).trans (by rw [h1]; exact q.all))
  have hb : (putR12 m).2 = 0 → isB (putR12 m).1 := fun h => by rw [(putR12_zero h).2]; exact isB_M h0.1 h0.2
  have no : (putR12 m).2 = 0 → ¬ (putR12 m).1 <+: k :: r → ((msg0, 0, 4) : Msg × Int × Int) = getM (k :: r) := fun h hn => by
    rw [e, if_neg (fun hc => hn (by rw [(putR12_zero h).2]; exact hc.2))]
  have yes : (putR12 m).2 = 0 → (putR12 m).1 <+: k :: r → (m, (((putR12 m).1.length : Nat) : Int), 0) = getM (k :: r) := fun h hp => by
    rw [e, if_pos ⟨(putR12_zero h).1, by rw [← (putR12_zero h).2]; exact hp⟩, (putR12_zero h).2]
  refine ⟨fun h => ?_, fun h hl => no h fun hc => ?_, fun h hs => no h fun hc => hs ((pre_str hB (hb h)).2 hc), fun h hs => yes h ((pre_str hB (hb h)).1 hs),
    fun h hs => no h fun hc => ?_, fun h hs => yes h ((hasPre_iff hB (hb h)).1 hs)⟩
  · rw [e, if_neg (fun hc => putR12_not h hc.1)]
  · have := hc.length_le; omega
  · rw [(hasPre_iff hB (hb h)).2 hc] at hs; exact Bool.noConfusion hs
end Go.Proofs.Ytkmfjlfejdoehaa

set_option linter.unusedVariables false
set_option linter.unusedSimpArgs false
set_option maxHeartbeats 1000000
namespace Go.Proofs.Ytkmfjlfejdoehaa
open Go.Eng
def nnI (n : Inn) : Prop := ∀ l ∈ n.2.2, ∀ m ∈ l, 0 ≤ m.1
instance (n : Inn) : Decidable (nnI n) := by unfold nnI; infer_instance
theorem fnz_zero : ∀ {l : List Int}, fnz l = 0 → ∀ e ∈ l, e = 0
  | [], _, e, h => by simp at h
  | x :: l, h, e, he => by
    rw [fnz] at h
    split at h
    · rename_i hx
      rcases List.mem_cons.1 he with rfl | he
      · exact hx
      · exact fnz_zero h e he
    · rename_i hx; exact absurd h hx
structure ValI (n : Inn) : Prop where
  w1 : n.2.2.length = n.2.1.length
  w2 : n.1.length + 1 = n.2.1.length
  k2 : 2 ≤ n.2.1.length
  k6 : n.2.1.length ≤ 6
  ps : ∀ p ∈ n.1, p.length ≤ 16
  up : UpT n.1 n.1.length
  ks : ∀ k ∈ n.2.1, 0 ≤ k ∧ k ≤ 1099511627776
  ms : ∀ b ∈ n.2.2, ∀ m ∈ b, mcheck m = 0
  wt : waitE n = 0
  sz : (layI n).length ≤ 1016
theorem valI {n : Inn} (h : checkI n = 0) : ValI n := by
  have hw := checkI_whole h
  have hn : ¬ (wholeI n = false ∨ n.2.1.length < 2 ∨ 6 < n.2.1.length) := fun hc => by rw [checkI_form hc] at h; exact absurd h (by decide)
  have hp : pivE n.1 = 0 := Classical.byContradiction fun hc => hc (by rw [checkI_piv hn hc] at h; exact h)
  have hk : n.2.1.any outK = false := by
    cases hk : n.2.1.any outK
    · rfl
    · rw [checkI_kid hn hp hk] at h; exact absurd h (by decide)
  have ht : waitE n = 0 := Classical.byContradiction fun hc => hc (by rw [checkI_wait hn hp hk hc] at h; exact h)
  have hs : sizeI n ≤ 1016 := by
    rw [checkI_big hn hp hk ht] at h
    split at h
    · exact absurd h (by decide)
    · omega
  obtain ⟨h1, h2⟩ := wholeI_iff.1 hw
  unfold pivE at hp
  split at hp
  · exact absurd hp (by decide)
  rename_i ha
  split at hp
  case isFalse => exact absurd hp (by decide)
  rename_i hu
  refine ⟨h1, h2, by omega, by omega, fun p hp => ?_, hu, fun k hk9 => ?_, fun b hb m hm => ?_, ht, by rw [sizeI, if_pos hw] at hs; exact hs⟩
  · have h9 : ¬ bigT p = true := fun hc => ha (List.any_eq_true.2 ⟨p, hp, hc⟩)
    have h8 := of_decide_eq_false (by simpa [bigT] using h9 : decide (((p.length : Nat) : Int) > 16) = false)
    omega
  · have h9 := List.any_eq_false.1 hk k hk9
    simp only [outK, Bool.or_eq_true, decide_eq_true_eq] at h9
    omega
  · obtain ⟨i, hi, rfl⟩ := List.mem_iff_getElem.1 hb
    have h9 := fnz_zero ht (waitsI n i) (List.mem_map.2 ⟨i, List.mem_range.2 hi, rfl⟩)
    have h8 := fnz_zero h9 (ew n i m) (List.mem_map.2 ⟨m, by rw [List.getD_eq_getElem?_getD, List.getElem?_eq_getElem hi]; exact hm, rfl⟩)
    rw [ew] at h8
    split at h8
    · assumption
    · exact h8
theorem pm_ok {m : Msg} (h : mcheck m = 0) : pm m = putM m := by rw [pm, putR12, if_pos h]
theorem putM_pos (m : Msg) : 1 ≤ (putM m).length := by rw [putM, List.length_cons]; omega
theorem max0_ok {k : Int} (h : 0 ≤ k) : max0 k = k := by unfold max0; split <;> omega
def rdPs : Nat → List Int → List (List UInt8) × List Int
  | 0, r => ([], r)
  | k + 1, r => ((rdText r 0 16).1 :: (rdPs k (rdText r 0 16).2.1).1, (rdPs k (rdText r 0 16).2.1).2)
def rdMs : Nat → List Int → List Msg × List Int
  | 0, r => ([], r)
  | k + 1, r => ((getM r).1 :: (rdMs k (r.drop (getM r).2.1.toNat)).1, (rdMs k (r.drop (getM r).2.1.toNat)).2)
def rdKs : Nat → List Int → List Int × List (List Msg)
  | 0, _ => ([], [])
  | k + 1, r =>
    let m := rdMs (rdSmall (rdSmall r 0).2.1 0).1.toNat (rdSmall (rdSmall r 0).2.1 0).2.1
    ((rdSmall r 0).1 :: (rdKs k m.2).1, m.1 :: (rdKs k m.2).2)
def readI (b : List Int) : Inn :=
  let N := min (rdSmall b 0).1.toNat 6
  let p := rdPs (N - 1) (rdSmall b 0).2.1
  (p.1, (rdKs N p.2).1, (rdKs N p.2).2)
def getI (b : List Int) : Inn × Int := if checkI (readI b) = 0 ∧ nnI (readI b) ∧ layI (readI b) = b then (readI b, 0) else (inn0, 4)
theorem rdPs_put : ∀ (l : List (List UInt8)) (r : List Int), (∀ p ∈ l, p.length ≤ 16) → rdPs l.length (l.flatMap putText ++ r) = (l, r)
  | [], r, _ => rfl
  | p :: l, r, h => by
    have h1 := h p List.mem_cons_self
    have ih := rdPs_put l r fun q hq => h q (List.mem_cons_of_mem _ hq)
    rw [List.flatMap_cons, List.append_assoc, List.length_cons, rdPs, rdText_put (by omega), ih]
theorem rdMs_put : ∀ (l : List Msg) (r : List Int), (∀ m ∈ l, mcheck m = 0 ∧ 0 ≤ m.1) → rdMs l.length (l.flatMap pm ++ r) = (l, r)
  | [], r, _ => rfl
  | m :: l, r, h => by
    obtain ⟨h1, h2⟩ := h m List.mem_cons_self
    have ih := rdMs_put l r fun q hq => h q (List.mem_cons_of_mem _ hq)
    rw [List.flatMap_cons, List.append_assoc, List.length_cons, rdMs, pm_ok h1, getM_put h2 h1 (List.prefix_append _ _)]
    dsimp only
    rw [Int.toNat_natCast, List.drop_left' rfl, ih]
def kfrom : List Int → List (List Msg) → List Int
  | k :: ks, b :: bs => kb k b ++ kfrom ks bs
  | _, _ => []
theorem kfrom_eq : ∀ (ks : List Int) (bs : List (List Msg)), bs.length = ks.length → ((List.range ks.length).flatMap fun j => kb (ks.getD j 0) (bs.getD j [])) = kfrom ks bs
  | [], [], _ => rfl
  | k :: ks, b :: bs, h => by
    rw [List.length_cons, List.range_succ_eq_map, List.flatMap_cons, List.flatMap_map, kfrom, ← kfrom_eq ks bs (by simpa using h)]
    rfl
theorem layI_eq {n : Inn} (h : n.2.2.length = n.2.1.length) : layI n = putSmall (n.2.1.length : Nat) ++ (n.1.flatMap putText ++ kfrom n.2.1 n.2.2) := by
  rw [layI, kbs, kfrom_eq _ _ h, List.append_assoc]
theorem rdKs_put : ∀ (ks : List Int) (bs : List (List Msg)), bs.length = ks.length → (∀ k ∈ ks, 0 ≤ k ∧ k ≤ 1099511627776) → (∀ b ∈ bs, b.length ≤ 1099511627776 ∧ ∀ m ∈ b, mcheck m = 0 ∧ 0 ≤ m.1) → rdKs ks.length (kfrom ks bs) = (ks, bs)
  | [], [], _, _, _ => rfl
  | k :: ks, b :: bs, h, hk, hb => by
    obtain ⟨h1, h2⟩ := hk k List.mem_cons_self
    obtain ⟨h3, h4⟩ := hb b List.mem_cons_self
    have ih := rdKs_put ks bs (by simpa using h) (fun x hx => hk x (List.mem_cons_of_mem _ hx)) fun x hx => hb x (List.mem_cons_of_mem _ hx)
    rw [List.length_cons, kfrom, kb, max0_ok h1, List.append_assoc, List.append_assoc, rdKs, rdSmall_put h1 h2]
    dsimp only
    rw [rdSmall_put (Int.natCast_nonneg _) (by omega)]
    dsimp only
    rw [Int.toNat_natCast, rdMs_put b _ h4]
    dsimp only
    rw [ih]
theorem pms_ge : ∀ {b : List Msg}, (∀ m ∈ b, mcheck m = 0) → b.length ≤ (b.flatMap pm).length
  | [], _ => Nat.le_refl _
  | m :: b, h => by
    have h1 := putM_pos m
    have ih := pms_ge (b := b) fun x hx => h x (List.mem_cons_of_mem _ hx)
    rw [List.flatMap_cons, List.length_append, List.length_cons, pm_ok (h m List.mem_cons_self)]; omega
theorem kfrom_ge : ∀ {ks : List Int} {bs : List (List Msg)}, bs.length = ks.length → (∀ b ∈ bs, ∀ m ∈ b, mcheck m = 0) → ks.length + bs.flatten.length ≤ (kfrom ks bs).length
  | [], [], _, _ => by simp [kfrom]
  | k :: ks, b :: bs, h, hb => by
    have h1 := pms_ge (hb b List.mem_cons_self)
    have h2 := putSmall_len (max0 k)
    have ih := kfrom_ge (ks := ks) (bs := bs) (by simpa using h) fun x hx => hb x (List.mem_cons_of_mem _ hx)
    rw [kfrom, kb, List.length_append, List.length_append, List.length_append, List.flatten_cons, List.length_append, List.length_cons]; omega
theorem ValI.bl {n : Inn} (h : ValI n) {b : List Msg} (hb : b ∈ n.2.2) : b.length ≤ 1016 := by
  have h1 := h.sz
  have h2 := kfrom_ge h.w1 h.ms
  have h3 := (List.sublist_flatten_of_mem hb).length_le
  rw [layI_eq h.w1, List.length_append, List.length_append] at h1
  omega
theorem readI_put {n : Inn} (h : checkI n = 0) (h0 : nnI n) : readI (layI n) = n := by
  have v := valI h
  have hr := rdKs_put n.2.1 n.2.2 v.w1 v.ks fun b hb => ⟨by have := v.bl hb; omega, fun m hm => ⟨v.ms b hb m hm, h0 b hb m hm⟩⟩
  have hp := rdPs_put n.1 (kfrom n.2.1 n.2.2) v.ps
  have h1 := v.k6
  have h2 := v.w2
  rw [layI_eq v.w1, readI, rdSmall_put (Int.natCast_nonneg _) (by omega)]
  dsimp only
  rw [Int.toNat_natCast, Nat.min_eq_left h1, show n.2.1.length - 1 = n.1.length by omega, hp]
  dsimp only
  rw [hr]
theorem getI_put {n : Inn} {b : List Int} (h : checkI n = 0) (h0 : nnI n) (hb : layI n = b) : getI b = (n, 0) := by
  subst hb
  rw [getI, readI_put h h0, if_pos ⟨h, h0, rfl⟩]
theorem getI_not {b : List Int} (h : ∀ n, checkI n = 0 → nnI n → layI n ≠ b) : getI b = (inn0, 4) := by
  rw [getI, if_neg fun hc => h _ hc.1 hc.2.1 hc.2.2]
theorem isB_flatI {α : Type} {f : α → List Int} (h : ∀ a, isB (f a)) (l : List α) : isB (l.flatMap f) := fun x hx => by
  obtain ⟨a, _, ha⟩ := List.mem_flatMap.1 hx
  exact h a x ha
theorem isB_pm (m : Msg) (h0 : 0 ≤ m.1) : isB (pm m) := by
  rw [pm, putR12]; split
  · rename_i h; exact isB_M h0 (by have := (mcheck_ok h).kind; omega)
  · intro x hx; simp at hx
theorem isB_kfrom : ∀ (ks : List Int) (bs : List (List Msg)), (∀ b ∈ bs, ∀ m ∈ b, 0 ≤ m.1) → isB (kfrom ks bs)
  | [], _, _ => fun x hx => by simp [kfrom] at hx
  | _ :: _, [], _ => fun x hx => by simp [kfrom] at hx
  | k :: ks, b :: bs, h => by
    rw [kfrom, kb]
    refine isB_append (isB_append (isB_small _) (isB_append (isB_small _) fun x hx => ?_)) (isB_kfrom ks bs fun c hc => h c (List.mem_cons_of_mem _ hc))
    obtain ⟨m, hm, ha⟩ := List.mem_flatMap.1 hx
    exact isB_pm m (h b List.mem_cons_self m hm) x ha
theorem isB_layI {n : Inn} (hw : n.2.2.length = n.2.1.length) (h0 : nnI n) : isB (layI n) := by
  rw [layI_eq hw]
  exact isB_append (isB_small _) (isB_append (isB_flatI isB_put _) (isB_kfrom _ _ h0))
theorem putI_zero {n : Inn} (h : (putI n).2 = 0) : checkI n = 0 ∧ (putI n).1 = layI n := by
  unfold putI at h ⊢
  split at h
  · rename_i hc; rw [if_pos hc]; exact ⟨hc, rfl⟩
  · rename_i hc; exact absurd h hc
theorem putI_not {n : Inn} (h : ¬ (putI n).2 = 0) : ¬ checkI n = 0 := fun hc => h (by unfold putI; rw [if_pos hc])
theorem finI_bad {b : List Int} {acc : Inn} (h : ∀ n, checkI n = 0 → nnI n → layI n = b → acc = n) (hp : ¬ (putI acc).2 = 0) : getI b = (inn0, 4) := getI_not fun n hc h0 hb => by
  have := h n hc h0 hb
  subst this
  exact putI_not hp hc
theorem finI_not {b : List Int} {acc : Inn} (h : ∀ n, checkI n = 0 → nnI n → layI n = b → acc = n) (hp : (putI acc).2 = 0) (hn : ¬ strOfBytes (putI acc).1 = strOfBytes b) : getI b = (inn0, 4) := getI_not fun n hc h0 hb => by
  have := h n hc h0 hb
  subst this
  rw [(putI_zero hp).2, hb] at hn
  exact hn rfl
theorem finI_yes {b : List Int} {acc : Inn} (hB : isB b) (h0 : nnI acc) (hp : (putI acc).2 = 0) (hn : strOfBytes (putI acc).1 = strOfBytes b) : getI b = (acc, 0) := by
  obtain ⟨h1, h2⟩ := putI_zero hp
  rw [h2] at hn
  exact getI_put h1 h0 (str_inj (isB_layI (valI h1).w1 h0) hB hn)
theorem getM_nn {b : List Int} (hB : isB b) : 0 ≤ (getM b).1.1 := by
  cases b with
  | nil => exact Int.le_refl 0
  | cons k r =>
    rw [getM]
    split
    · exact (hB k List.mem_cons_self).1
    · exact Int.le_refl 0
theorem getM_cases (b : List Int) : getM b = (msg0, 0, 4) ∨ ∃ m, mcheck m = 0 ∧ putM m <+: b ∧ getM b = (m, (((putM m).length : Nat) : Int), 0) := by
  cases b with
  | nil => exact .inl rfl
  | cons k r =>
    rw [getM]
    split
    · rename_i h; exact .inr ⟨_, h.1, (preB_iff _ _).1 h.2, rfl⟩
    · exact .inl rfl
theorem getM_step {b : List Int} (h : (getM b).2.2 = 0) : 1 ≤ (getM b).2.1 ∧ (getM b).2.1 ≤ b.length := by
  rcases getM_cases b with h1 | ⟨m, _, h2, h3⟩
  · rw [h1] at h; exact absurd h (by decide)
  · have := putM_pos m
    have := h2.length_le
    rw [h3]; dsimp only; omega
theorem rdText_max9 (b : List Int) (e : Int) {m : Int} (h : 0 ≤ m) : ((rdText b e m).1.length : Int) ≤ m := by
  unfold rdText
  repeat' split
  all_goals first
    | (simp; omega)
    | (dsimp only at *; omega)
    | skip
end Go.Proofs.Ytkmfjlfejdoehaa

set_option linter.unusedVariables false
set_option linter.unusedSimpArgs false
set_option maxRecDepth 8000
set_option maxHeartbeats 4000000
namespace Go.Proofs.Ytkmfjlfejdoehaa
open Go.Eng
def sHasPrefix : PSpec := ⟨[.d BT, .d BT], [⟨false, [.d .bool]⟩], fun _ => True, fun x => ((hasPre x.1 x.2.1, ()), ())⟩
theorem fHasPrefix : FnOk Try.prog 131 := ⟨_, Try.func131, by decide, rfl⟩
theorem pHasPrefix : PSound Try.prog 131 sHasPrefix := by
  refine psound (T := tab) (S := (spOf [(90, sBEqual.spec (lsOf []))])) (keep := k131) (by kernel_rfl) tabOk (spCons (pOk pBEqual fBEqual (by decide) lsNil) spNil) (by kernel_rfl) Try.func131 (by kernel_rfl) (by decide) fun xs hg hp => ?_
  obtain ⟨b, c, ⟨⟩⟩ := xs
  change List Int at b c
  show vfun tab _ k131 Try.f131 [.sl (.int .u8) b, .sl (.int .u8) c] [] _
  refine Ev.out ?_
  repeat' (first | ((with_reducible refine Ev.mk ?_); conv => whnf) | (with_reducible refine And.intro ?_ ?_) | (intro h))
  all_goals (try simp only [decide_eq_true_eq, decide_eq_false_iff_not, beq_iff_eq, bne_iff_ne, beq_eq_false_iff_ne, bne_eq_false_iff_eq, Int.toNat_natCast, ge_iff_le, gt_iff_lt, Bool.not_eq_true', Bool.not_eq_false', Int.not_lt, Int.not_le, ne_eq] at *)
  all_goals (try dsimp only [Ty.den, Ty.dflt, MsgT, sBEqual] at *)
  all_goals (try simp only [eq4, ne4, eq3, ne3, eq2, ne2, Prod.eta, List.length_cons, List.length_nil, List.length_append, Nat.zero_add] at *)
  all_goals (try simp (disch := omega) only [wrap64] at *)
  all_goals try first | exact leafDraw (by kernel_rfl) | exact Leaf.mk trivial | (refine Leaf.mk ?_; omega) | (refine Leaf.mk ?_; unfold maxLen; omega)
  · refine Leaf.mk (ret1 (show _ = hasPre b c from ?_))
    rw [hasPre, decide_eq_true (by omega), Bool.true_and, Int.toNat_zero, List.drop_zero]
  · refine Leaf.mk (ret1 (show _ = hasPre b c from ?_))
    rw [hasPre, decide_eq_false (by omega), Bool.false_and]
def sMGet : PSpec := ⟨[.d BT], [⟨true, [.d MsgT]⟩, ⟨false, [.d (.int .i64)]⟩, ⟨false, [.d (.int .i64)]⟩], fun x => List.length (α := Int) x.1 ≤ 100000, fun x => (((getM x.1).1, ()), ((getM x.1).2.1, ()), ((getM x.1).2.2, ()), ())⟩
theorem retM {u v : Msg × Int × Int} (h : u = v) : (some ((u.1, ()), (u.2.1, ()), (u.2.2, ()), ()) : Option ((Msg × Unit) × (Int × Unit) × (Int × Unit) × Unit)) = some ((v.1, ()), (v.2.1, ()), (v.2.2, ()), ()) := by rw [h]
theorem suf_cutk (k : Int) {X r : List Int} (h : X <:+ r) : (k :: r).drop (((r.length + 1 : Nat) : Int) - ((X.length : Nat) : Int)).toNat = X := by
  obtain ⟨t, rfl⟩ := h
  rw [show (((t ++ X).length + 1 : Nat) : Int) - ((X.length : Nat) : Int) = ((t.length + 1 : Nat) : Int) by rw [List.length_append]; omega, Int.toNat_natCast, List.drop_succ_cons, List.drop_left]
theorem cut_all {α : Type} (l : List α) : l.take l.length = l := List.take_length
end Go.Proofs.Ytkmfjlfejdoehaa

set_option linter.unusedVariables false
set_option linter.unusedSimpArgs false
set_option maxRecDepth 8000
set_option maxHeartbeats 4000000
namespace Go.Proofs.Ytkmfjlfejdoehaa
open Go.Eng
theorem fMGet : FnOk Try.prog 92 := ⟨_, Try.func92, by decide, rfl⟩
theorem pMGet : PSound Try.prog 92 sMGet := by
  refine psound (T := tab) (S := (spOf [(94, sOf.spec (lsOf [])), (86, sNew.spec (lsOf [])), (91, sText.spec), (87, sSmall.spec), (88, sLeft.spec), (124, sMPut.spec (lsOf [])), (131, sHasPrefix.spec (lsOf []))])) (keep := k92) (by kernel_rfl) tabOk (spCons (pOk pOf fOf (by decide) lsNil) (spCons (.inl ⟨nOk lsNil pNew, fNew⟩) (spCons (.inl ⟨pText, fText⟩) (spCons (.inl ⟨pSmall, fSmall⟩) (spCons (.inl ⟨pLeft, fLeft⟩) (spCons (pOk pMPut fMPut (by decide) lsNil) (spCons (pOk pHasPrefix fHasPrefix (by decide) lsNil) spNil))))))) (by kernel_rfl) Try.func92 (by kernel_rfl) (by decide) fun xs hg hp => ?_
  obtain ⟨b, ⟨⟩⟩ := xs
  obtain ⟨⟨-, hx⟩, -⟩ := hg
  change List Int at b
  change b.length ≤ 100000 at hp
  have hB : isB b := isB_good hx
  clear hx
  cases b with
  | nil =>
  show vfun tab _ k92 Try.f92 [.sl (.int .u8) []] [] _
  refine Ev.out ?_
  repeat' (first | ((with_reducible refine Ev.mk ?_); conv => whnf) | (with_reducible refine And.intro ?_ ?_) | (intro h))
  all_goals try first | exact leafDraw (by kernel_rfl) | exact Leaf.mk trivial | (refine Leaf.mk ?_; omega) | (refine Leaf.mk ?_; unfold maxLen; omega)
  all_goals first
    | exact Leaf.mk (retM (u := (msg0, 0, 4)) (v := getM []) rfl)
    | exact absurd ‹((([] : List Int).length : Int) == 0) = false› (by decide)
  | cons k r =>
  show vfun tab _ k92 Try.f92 [.sl (.int .u8) (k :: r)] [] _
  refine Ev.out ?_
  repeat' (first | ((with_reducible refine Ev.mk ?_); conv => whnf) | (with_reducible refine And.intro ?_ ?_) | (intro h; (try dsimp only [sOf, ofK] at h); (try simp only [beq_iff_eq, bne_iff_ne, beq_eq_false_iff_ne, bne_eq_false_iff_eq, decide_eq_true_eq, decide_eq_false_iff_not, ne_eq, Int.not_lt, Int.not_le, Bool.not_eq_true', Bool.not_eq_false'] at h); try (exfalso; omega)))
  all_goals try exact leafDraw (by kernel_rfl)
  all_goals try simp only [List.getD_cons_zero, Int.toNat_zero, show Int.toNat 1 = 1 from rfl, Int.toNat_natCast, cut_all, List.drop_succ_cons, List.drop_zero] at *
  all_goals try exact Leaf.mk trivial
  all_goals (try simp only [decide_eq_true_eq, decide_eq_false_iff_not, beq_iff_eq, bne_iff_ne, beq_eq_false_iff_ne, bne_eq_false_iff_eq, Int.toNat_natCast, ge_iff_le, gt_iff_lt, Bool.not_eq_true', Bool.not_eq_false', Int.not_lt, Int.not_le, ne_eq] at *)
  all_goals (try dsimp only [Ty.den, Ty.dflt, MsgT, sNew, sText, sSmall, sLeft, sMPut, sHasPrefix] at *)
  all_goals (try simp only [eq4, ne4, eq3, ne3, eq2, ne2, Prod.eta, List.length_cons, List.length_nil, List.length_append, Nat.zero_add] at *)
  all_goals (try simp (disch := omega) only [wrap64] at *)
  all_goals try first | exact leafDraw (by kernel_rfl) | exact Leaf.mk trivial | (refine Leaf.mk ?_; omega) | (refine Leaf.mk ?_; unfold maxLen; omega)
  all_goals
    have hk0 : 0 ≤ k := (hB k List.mem_cons_self).1
    have hrl : r.length + 1 ≤ 100000 := hp
    have hs1 := suf_len (rdText_suf r 0 16)
    have hs2 := suf_len (rdSmall_suf (rdText r 0 16).2.1 (rdText r 0 16).2.2)
  all_goals
    have hs3 := suf_len (rdSmall_suf r 0)
    have hs4 := suf_len (rdSmall_suf (rdSmall r 0).2.1 (rdSmall r 0).2.2)
    have hcut := suf_cutk k ((rdSmall_suf (rdText r 0 16).2.1 (rdText r 0 16).2.2).trans (rdText_suf r 0 16))
  all_goals try rw [wrap64 (by omega)] at *
  all_goals try simp only [hcut] at *
  all_goals try (refine Leaf.mk ?_; first | omega | (rw [List.length_drop]; omega))
  all_goals first
    | refine Leaf.mk (retM (u := (msg0, 0, 4)) (v := getM (k :: r)) ((fin_of hB ?_ ?_).bad ‹¬ (putR12 _).2 = 0›))
    | refine Leaf.mk (retM (u := (msg0, 0, 4)) (v := getM (k :: r)) ((fin_of hB ?_ ?_).nol ‹(putR12 _).2 = 0› ‹_ < _›))
    | refine Leaf.mk (retM (u := (msg0, 0, 4)) (v := getM (k :: r)) ((fin_of hB ?_ ?_).nos ‹(putR12 _).2 = 0› ‹¬ strOfBytes _ = _›))
    | refine Leaf.mk (retM (u := (msg0, 0, 4)) (v := getM (k :: r)) ((fin_of hB ?_ ?_).nop ‹(putR12 _).2 = 0› ‹hasPre _ _ = false›))
    | refine Leaf.mk (retM (u := (_, _, 0)) (v := getM (k :: r)) ((fin_of hB ?_ ?_).yess ‹(putR12 _).2 = 0› ‹strOfBytes _ = _›))
    | refine Leaf.mk (retM (u := (_, _, 0)) (v := getM (k :: r)) ((fin_of hB ?_ ?_).yesp ‹(putR12 _).2 = 0› ‹hasPre _ _ = true›))
  all_goals try exact rfl
  all_goals
    intro x s hx ok q
    have hts := q.ts
    have hk3 := ok.kind
    rw [hx] at hts hk3
  all_goals first
    | (exfalso; omega)
    | (have hkk : k = 0 := by omega
       subst hkk)
    | (have hkk : k = 1 := by omega
       subst hkk)
    | (have hkk : k = 2 := by omega
       subst hkk)
    | (have hkk : k = 3 := by omega
       subst hkk)
  all_goals
    simp only [rdTs, rdTxn, rdKey, readM, if_true, if_false, Int.reduceEq, true_or, or_true, false_or, or_false, true_and, false_and] at hts ⊢
  all_goals try exact rfl
  all_goals try (rw [if_pos (by omega)]; done)
  all_goals try (rw [if_neg (by omega)]; done)
  all_goals try (rw [if_pos (by omega)]; simp_all; done)
  all_goals try (exfalso; exact absurd (congrArg (fun p : Int × List Int × Int => p.2.2) hts) ‹¬ (rdSmall _ _).2.2 = 0›)
end Go.Proofs.Ytkmfjlfejdoehaa

set_option linter.unusedVariables false
set_option linter.unusedSimpArgs false
set_option maxRecDepth 8000
set_option maxHeartbeats 4000000
namespace Go.Proofs.Ytkmfjlfejdoehaa
open Go.Eng
def one (s : Stk) : List Int := putSmall ((putR11 s).1.length : Nat) ++ (putR11 s).1
def layF (l : List Stk) : List Int := putSmall (l.length : Nat) ++ l.flatMap one
def sizeF (l : List Stk) : Nat := (layF l).length
theorem putR_len (s : Stk) : (putR11 s).1.length ≤ 595 := by
  unfold putR11
  split
  · exact putS_len ‹_›
  · exact Nat.zero_le _
theorem one_len (s : Stk) : (one s).length ≤ 604 := by
  have h1 := putR_len s
  have h2 := putSmall_len ((putR11 s).1.length : Nat)
  rw [one, List.length_append]; omega
theorem flat_lenS {α β : Type} (f : β → List α) (m : Nat) (h : ∀ v, (f v).length ≤ m) : ∀ (l : List β), (l.flatMap f).length ≤ l.length * m
  | [] => by simp
  | v :: r => by
    have := flat_lenS f m h r
    have := h v
    rw [List.flatMap_cons, List.length_append, List.length_cons, Nat.succ_mul]; omega
def sOne : PSpec := ⟨[.d StT], [⟨false, [.o 5 (.int .u8)]⟩], fun _ => True, fun x => ((one x.1, ()), ())⟩
def sOneR : PSpec := sOne
def sLay14 : PSpec := ⟨[.d (.slice StT)], [⟨false, [.o 5 (.int .u8)]⟩], fun x => List.length x.1 ≤ 100000, fun x => ((layF x.1, ()), ())⟩
theorem fOne : FnOk Try.prog 121 := ⟨_, Try.func121, by decide, rfl⟩
theorem pOne : PSound Try.prog 121 sOne := by
  refine psound (T := tab) (S := (spOf [(129, sSPut.spec (lsOf [])), (120, sPutSmall.spec (lsOf []))])) (keep := k121) (by kernel_rfl) tabOk (spCons (pOk pSPut fSPut (by decide) lsNil) (spCons (pOk pPutSmall fPutSmall (by decide) lsNil) spNil)) (by kernel_rfl) Try.func121 (by kernel_rfl) (by decide) fun xs hg hp => ?_
  obtain ⟨⟨key, xs⟩, ⟨⟩⟩ := xs
  change List UInt8 at key
  change List Ver at xs
  clear hp hg
  show vfun tab _ k121 Try.f121 [.agg [.s key, .sl VerT xs]] [] _
  refine Ev.out ?_
  repeat' (first | ((with_reducible refine Ev.mk ?_); conv => whnf) | (with_reducible refine And.intro ?_ ?_) | (intro h))
  all_goals (try simp only [decide_eq_true_eq, decide_eq_false_iff_not, beq_iff_eq, bne_iff_ne, beq_eq_false_iff_ne, bne_eq_false_iff_eq, Int.toNat_natCast, ge_iff_le, gt_iff_lt, Bool.not_eq_true', Bool.not_eq_false', Int.not_lt, Int.not_le, ne_eq] at *)
  all_goals (try dsimp only [Ty.den, Ty.dflt, VerT, sPutSmall, sPutSmallR] at *)
  all_goals (try simp only [eq4, ne4, eq3, ne3, eq2, ne2, Prod.eta, List.length_cons, List.length_nil, List.length_append, Nat.zero_add] at *)
  all_goals (try simp (disch := omega) only [wrap64] at *)
  all_goals try first | exact leafDraw (by kernel_rfl) | exact Leaf.mk trivial | (refine Leaf.mk ?_; omega) | (refine Leaf.mk ?_; unfold maxLen; omega)
  all_goals
    have h1 := putR_len (key, xs)
    have h2 := putSmall_len ((putR11 (key, xs)).1.length : Nat)
    try rw [show (sSPut.fn ((key, xs), ())).1.1 = (putR11 (key, xs)).1 from rfl]
    try rw [show (sSPutR.fn ((key, xs), ())).1.1 = (putR11 (key, xs)).1 from rfl]
    try rw [wrapu (by omega)]
  all_goals first
    | (refine Leaf.mk ?_; omega)
    | (refine Leaf.mk ?_; unfold maxLen; omega)
    | exact Leaf.mk (ret1 rfl)
theorem fLay14 : FnOk Try.prog 84 := ⟨_, Try.func84, by decide, rfl⟩
theorem pLay14 : PSound Try.prog 84 sLay14 := by
  refine psound (T := tab) (S := (spOf [(121, sOne.spec (lsOf [])), (120, sPutSmall.spec (lsOf []))])) (keep := k84) (by kernel_rfl) tabOk (spCons (pOk pOne fOne (by decide) lsNil) (spCons (pOk pPutSmall fPutSmall (by decide) lsNil) spNil)) (by kernel_rfl) Try.func84 (by kernel_rfl) (by decide) fun xs hg hp => ?_
  obtain ⟨xs, ⟨⟩⟩ := xs
  change List Stk at xs
  change xs.length ≤ 100000 at hp
  clear hg
  show vfun tab _ k84 Try.f84 [.sl StT xs] [] _
  refine Ev.out ?_
  repeat' (first | ((with_reducible refine Ev.mk ?_); conv => whnf) | (with_reducible refine And.intro ?_ ?_) | (intro h))
  all_goals (try simp only [decide_eq_true_eq, decide_eq_false_iff_not, beq_iff_eq, bne_iff_ne, beq_eq_false_iff_ne, bne_eq_false_iff_eq, Int.toNat_natCast, ge_iff_le, gt_iff_lt, Bool.not_eq_true', Bool.not_eq_false', Int.not_lt, Int.not_le, ne_eq] at *)
  all_goals (try dsimp only [Ty.den, Ty.dflt, StT, sPutSmall, sPutSmallR] at *)
  all_goals (try simp only [eq4, ne4, eq3, ne3, eq2, ne2, Prod.eta, List.length_cons, List.length_nil, List.length_append, Nat.zero_add] at *)
  all_goals (try simp (disch := omega) only [wrap64] at *)
  all_goals try first | exact leafDraw (by kernel_rfl) | exact Leaf.mk trivial | (refine Leaf.mk ?_; omega) | (refine Leaf.mk ?_; unfold maxLen; omega)
  have h2 := putSmall_len (xs.length : Nat)
  rw [wrapu (by omega)]
  refine LoopVC.on (fun i : Nat => [(12, .i .i64 i)]) (fun i => [(0, .arr 5 (.int .u8) (putSmall xs.length ++ (xs.take i).flatMap one))]) (fun i => i ≤ xs.length) (fun i => xs.length - i) 0 (by simp only [List.take_zero, List.flatMap_nil, List.append_nil]; rfl) (by omega) ?_
  intro i hi
  have hfl := flat_lenS one 604 one_len (xs.take i)
  have htl : (xs.take i).length ≤ 100000 := by rw [List.length_take]; omega
  have h1 := one_len (xs.getD i ([], []))
  repeat' (first | ((with_reducible refine Ev.mk ?_); conv => whnf) | (with_reducible refine And.intro ?_ ?_) | (intro h))
  all_goals (try simp only [decide_eq_true_eq, decide_eq_false_iff_not, beq_iff_eq, bne_iff_ne, beq_eq_false_iff_ne, bne_eq_false_iff_eq, Int.toNat_natCast, ge_iff_le, gt_iff_lt, Bool.not_eq_true', Bool.not_eq_false', Int.not_lt, Int.not_le, ne_eq] at *)
  all_goals (try dsimp only [Ty.den, Ty.dflt, StT, sOne, sOneR] at *)
  all_goals (try simp only [eq4, ne4, eq3, ne3, eq2, ne2, Prod.eta, List.length_cons, List.length_nil, List.length_append, Nat.zero_add] at *)
  all_goals (try simp (disch := omega) only [wrap64] at *)
  all_goals try first | exact leafDraw (by kernel_rfl) | exact Leaf.mk trivial | (refine Leaf.mk ?_; omega) | (refine Leaf.mk ?_; unfold maxLen; omega)
  all_goals try first
    | (refine Leaf.mk ?_; omega)
    | (refine Leaf.mk ?_; unfold maxLen; omega)
  · refine Leaf.mk ⟨i + 1, ?_, by omega, by omega⟩
    rw [flatMap_at ([], []) (by omega), ← List.append_assoc]; rfl
  · refine Leaf.mk (ret1 (show _ = layF xs from ?_))
    rw [List.take_of_length_le (by omega)]; rfl
def lightL (l : List Stk) (most : Int) : Bool := decide ((l.length : Int) ≤ most) && l.all light
def sLight14 : PSpec := ⟨[.d (.slice StT), .d (.int .i64)], [⟨false, [.d .bool]⟩], fun _ => True, fun x => ((lightL x.1 x.2.1, ()), ())⟩
theorem all_at {α : Type} {p : α → Bool} {xs : List α} {i : Nat} (d : α) (h : i < xs.length) : (xs.take (i + 1)).all p = ((xs.take i).all p && p (xs.getD i d)) := by
  rw [take_at d h, List.all_append]; simp
theorem all_no {α : Type} {p : α → Bool} {xs : List α} {i : Nat} (d : α) (h : i < xs.length) (hn : p (xs.getD i d) = false) : xs.all p = false := by
  have : ¬ xs.all p = true := fun hc => by
    rw [List.all_eq_true] at hc
    have := hc _ (getD_mem d h)
    rw [hn] at this; exact absurd this (by simp)
  simpa using this
theorem fLight14 : FnOk Try.prog 7 := ⟨_, Try.func7, by decide, rfl⟩
theorem pLight14 : PSound Try.prog 7 sLight14 := by
  refine psound (T := tab) (S := (spOf [(18, sLight.spec (lsOf []))])) (keep := k7) (by kernel_rfl) tabOk (spCons (pOk pLight fLight (by decide) lsNil) spNil) (by kernel_rfl) Try.func7 (by kernel_rfl) (by decide) fun xs hg hp => ?_
  obtain ⟨xs, most, ⟨⟩⟩ := xs
  obtain ⟨⟨hl, -⟩, -⟩ := hg
  change List Stk at xs
  change Int at most
  change xs.length ≤ _ at hl
  have hl := len63 hl
  clear hp
  show vfun tab _ k7 Try.f7 [.sl StT xs, .i .i64 most] [] _
  refine Ev.out ?_
  repeat' (first | ((with_reducible refine Ev.mk ?_); conv => whnf) | (with_reducible refine And.intro ?_ ?_) | (intro h))
  all_goals (try simp only [decide_eq_true_eq, decide_eq_false_iff_not, beq_iff_eq, bne_iff_ne, beq_eq_false_iff_ne, bne_eq_false_iff_eq, Int.toNat_natCast, ge_iff_le, gt_iff_lt, Bool.not_eq_true', Bool.not_eq_false', Int.not_lt, Int.not_le, ne_eq] at *)
  all_goals (try dsimp only [Ty.den, Ty.dflt, StT] at *)
  all_goals (try simp only [eq4, ne4, eq3, ne3, eq2, ne2, Prod.eta, List.length_cons, List.length_nil, List.length_append, Nat.zero_add] at *)
  all_goals (try simp (disch := omega) only [wrap64] at *)
  · refine Leaf.mk (ret1 (show false = lightL xs most from ?_))
    rw [lightL, decide_eq_false (by omega), Bool.false_and]
  refine LoopVC.on (fun i : Nat => [(5, .i .i64 i)]) (fun _ => []) (fun i => i ≤ xs.length ∧ (xs.take i).all light = true) (fun i => xs.length - i) 0 rfl ⟨by omega, rfl⟩ ?_
  intro i ⟨hi, he⟩
  repeat' (first | ((with_reducible refine Ev.mk ?_); conv => whnf) | (with_reducible refine And.intro ?_ ?_) | (intro h))
  all_goals (try simp only [decide_eq_true_eq, decide_eq_false_iff_not, beq_iff_eq, bne_iff_ne, beq_eq_false_iff_ne, bne_eq_false_iff_eq, Int.toNat_natCast, ge_iff_le, gt_iff_lt, Bool.not_eq_true', Bool.not_eq_false', Int.not_lt, Int.not_le, ne_eq] at *)
  all_goals (try dsimp only [Ty.den, Ty.dflt, StT, sLight] at *)
  all_goals (try simp only [eq4, ne4, eq3, ne3, eq2, ne2, Prod.eta, List.length_cons, List.length_nil, List.length_append, Nat.zero_add] at *)
  all_goals (try simp (disch := omega) only [wrap64] at *)
  all_goals try first | exact leafDraw (by kernel_rfl) | exact Leaf.mk trivial | (refine Leaf.mk ?_; omega) | (refine Leaf.mk ?_; unfold maxLen; omega)
  · refine Leaf.mk (ret1 (show false = lightL xs most from ?_))
    rw [lightL, all_no ([], []) (by omega) h, Bool.and_false]
  · refine Leaf.mk ⟨i + 1, rfl, ⟨by omega, ?_⟩, by omega⟩
    rw [all_at ([], []) (by omega), he, Bool.true_and]; exact h
  · refine Leaf.mk (ret1 (show true = lightL xs most from ?_))
    rw [List.take_of_length_le (by omega)] at he
    rw [lightL, he, Bool.and_true, decide_eq_true (by omega)]
end Go.Proofs.Ytkmfjlfejdoehaa

set_option linter.unusedVariables false
set_option linter.unusedSimpArgs false
set_option maxRecDepth 8000
set_option maxHeartbeats 4000000
namespace Go.Proofs.Ytkmfjlfejdoehaa
open Go.Eng
abbrev stk0 : Stk := ([], [])
def emptyS (s : Stk) : Bool := ((s.2.length : Nat) : Int) == 0
def sIndexFuncT : PSpec := ⟨[.d (.slice StT), .lam StT .bool], [⟨false, [.d (.int .i64)]⟩], fun _ => True, fun x => ((idxF x.2.1 x.1 0, ()), ())⟩
theorem fIndexFuncT : FnOk Try.prog 142 := ⟨_, Try.func142, by decide, rfl⟩
theorem pIndexFuncT : PSound Try.prog 142 sIndexFuncT := by
  refine psound (T := tab) (S := (spOf [])) (keep := k142) (by kernel_rfl) tabOk spNil (by kernel_rfl) Try.func142 (by kernel_rfl) (by decide) fun xs hg hp => ?_
  obtain ⟨xs, p, ⟨⟩⟩ := xs
  obtain ⟨⟨hl, -⟩, -⟩ := hg
  change List Stk at xs
  change Stk → Bool at p
  have hl := len63 hl
  clear hp
  show vfun tab _ k142 Try.f142 [.sl StT xs, .lam StT .bool p] [] _
  refine Ev.out ?_
  repeat' (first | ((with_reducible refine Ev.mk ?_); conv => whnf) | (with_reducible refine And.intro ?_ ?_) | (intro h))
  refine LoopVC.on (fun i : Nat => [(8, .i .i64 i)]) (fun _ => []) (fun i => i ≤ xs.length ∧ idxF p xs 0 = idxF p (xs.drop i) i) (fun i => xs.length - i) 0 rfl ⟨by omega, by simp⟩ ?_
  intro i ⟨hi, he⟩
  repeat' (first | ((with_reducible refine Ev.mk ?_); conv => whnf) | (with_reducible refine And.intro ?_ ?_) | (intro h))
  all_goals (try simp only [decide_eq_true_eq, decide_eq_false_iff_not, beq_iff_eq, bne_iff_ne, beq_eq_false_iff_ne, bne_eq_false_iff_eq, Int.toNat_natCast, ge_iff_le, gt_iff_lt, Bool.not_eq_true', Bool.not_eq_false', Int.not_lt, Int.not_le, ne_eq] at *)
  all_goals (try dsimp only [Ty.den, Ty.dflt, StT] at *)
  all_goals (try simp only [eq4, ne4, eq3, ne3, eq2, ne2, Prod.eta, List.length_cons, List.length_nil, List.length_append, Nat.zero_add] at *)
  all_goals (try simp (disch := omega) only [wrap64] at *)
  all_goals try first | exact leafDraw (by kernel_rfl) | exact Leaf.mk trivial | (refine Leaf.mk ?_; omega) | (refine Leaf.mk ?_; unfold maxLen; omega)
  all_goals first
    | (rw [drop_end (by omega)] at he; exact Leaf.mk (ret1 he.symm))
    | (rw [drop_at stk0 (by omega), idxF, if_pos (by assumption)] at he; exact Leaf.mk (ret1 he.symm))
    | (rw [drop_at stk0 (by omega), idxF, if_neg (by simp_all)] at he; exact Leaf.mk ⟨i + 1, rfl, ⟨by omega, he⟩, by omega⟩)
def sContainsFuncT : PSpec := ⟨[.d (.slice StT), .lam StT .bool], [⟨false, [.d .bool]⟩], fun _ => True, fun x => ((List.any x.1 x.2.1, ()), ())⟩
theorem fContainsFuncT : FnOk Try.prog 114 := ⟨_, Try.func114, by decide, rfl⟩
theorem pContainsFuncT : PSound Try.prog 114 sContainsFuncT := by
  refine psound (T := tab) (S := (spOf [(142, sIndexFuncT.spec (lsOf []))])) (keep := k114) (by kernel_rfl) tabOk (spCons (pOk pIndexFuncT fIndexFuncT (by decide) lsNil) spNil) (by kernel_rfl) Try.func114 (by kernel_rfl) (by decide) fun xs hg hp => ?_
  obtain ⟨xs, p, ⟨⟩⟩ := xs
  change List Stk at xs
  change Stk → Bool at p
  show vfun tab _ k114 Try.f114 [.sl StT xs, .lam StT .bool p] [] _
  refine Ev.out ?_
  repeat' (first | ((with_reducible refine Ev.mk ?_); conv => whnf) | (with_reducible refine And.intro ?_ ?_) | (intro h))
  · exact Leaf.mk trivial
  · exact Leaf.mk (ret1 (idxF_any xs 0))
def firstS : List Stk → Int
  | [] => 0
  | s :: r => if check s = 0 then firstS r else check s
def Up (l : List Stk) (n : Nat) : Prop := ∀ j, j < n → 1 ≤ j → (l.getD (j - 1) stk0).1 < (l.getD j stk0).1
instance (l : List Stk) (n : Nat) : Decidable (Up l n) := by unfold Up; infer_instance
def mayL (l : List Stk) : Int := if firstS l = 0 then (if l.any emptyS = true then 4 else if Up l l.length then 0 else 12) else firstS l
theorem firstS_at {xs : List Stk} {i : Nat} (h : i < xs.length) : firstS (xs.drop i) = if check (xs.getD i stk0) = 0 then firstS (xs.drop (i + 1)) else check (xs.getD i stk0) := by
  rw [drop_at stk0 h, firstS]
theorem up_step {l : List Stk} {i : Nat} (h : Up l i) (h1 : (l.getD (i - 1) stk0).1 < (l.getD i stk0).1) : Up l (i + 1) := fun j hj hj1 => by
  rcases Nat.lt_or_ge j i with hji | hji
  · exact h j hji hj1
  · obtain rfl : j = i := by omega
    exact h1
theorem up_not {l : List Stk} {i : Nat} (hi : 1 ≤ i) (hl : i < l.length) (h : sless (l.getD (i - 1) stk0).1 (l.getD i stk0).1 = false) : ¬ Up l l.length := fun hc => by
  have := sless_iff.2 (hc i hl hi)
  rw [h] at this; exact absurd this (by simp)
abbrev SsT : Ty := .slice StT
end Go.Proofs.Ytkmfjlfejdoehaa

set_option linter.unusedVariables false
set_option linter.unusedSimpArgs false
set_option maxRecDepth 8000
set_option maxHeartbeats 4000000
namespace Go.Proofs.Ytkmfjlfejdoehaa
open Go.Eng
set_option synthInstance.maxHeartbeats 400000
instance decVerI : DecidableEq Ver := inferInstanceAs (DecidableEq (Int × Int × Bool × List UInt8))
instance decStk : DecidableEq Stk := inferInstanceAs (DecidableEq (List UInt8 × List Ver))
end Go.Proofs.Ytkmfjlfejdoehaa

set_option linter.unusedVariables false
set_option linter.unusedSimpArgs false
set_option maxRecDepth 8000
set_option maxHeartbeats 4000000
namespace Go.Proofs.Ytkmfjlfejdoehaa
open Go.Eng
theorem firstS_zero : ∀ {l : List Stk}, firstS l = 0 ↔ ∀ s ∈ l, check s = 0
  | [] => by simp [firstS]
  | s :: r => by
    rw [firstS, List.forall_mem_cons]
    split
    · rename_i h; rw [firstS_zero]; exact ⟨fun h2 => ⟨h, h2⟩, fun h2 => h2.2⟩
    · rename_i h; exact ⟨fun h2 => absurd h2 h, fun h2 => absurd h2.1 h⟩
theorem up_lt {l : List Stk} (h : Up l l.length) : ∀ (d i : Nat), i + d + 1 < l.length → (l.getD i stk0).1 < (l.getD (i + d + 1) stk0).1
  | 0, i, hi => by have := h (i + 1) (by omega) (by omega); rwa [Nat.add_sub_cancel] at this
  | d + 1, i, hi => by
    have h1 := up_lt h d i (by omega)
    have h2 := h (i + (d + 1) + 1) (by omega) (by omega)
    rw [Nat.add_sub_cancel] at h2
    exact slt_trans h1 h2
theorem up_pair {l : List Stk} : Up l l.length ↔ l.Pairwise (fun a b => a.1 < b.1) := by
  rw [List.pairwise_iff_getElem]
  have eg : ∀ i (hi : i < l.length), l.getD i stk0 = l[i] := fun i hi => by simp [List.getD, hi]
  constructor
  · intro h i j hi hj hij
    have := up_lt h (j - i - 1) i (by omega)
    rw [show i + (j - i - 1) + 1 = j by omega, eg i hi, eg j hj] at this
    exact this
  · intro h j hj hj1
    rw [eg _ (by omega), eg j hj]
    exact h (j - 1) j (by omega) hj (by omega)
theorem mayL_zero {l : List Stk} : mayL l = 0 ↔ (∀ s ∈ l, check s = 0) ∧ l.any emptyS = false ∧ l.Pairwise (fun a b => a.1 < b.1) := by
  rw [← firstS_zero, ← up_pair, mayL]
  split
  · rename_i h
    split
    · rename_i h2; simp [h, h2]
    · rename_i h2
      split <;> simp_all
  · rename_i h; simp [h]
end Go.Proofs.Ytkmfjlfejdoehaa

set_option linter.unusedVariables false
set_option linter.unusedSimpArgs false
set_option maxRecDepth 8000
set_option maxHeartbeats 4000000
namespace Go.Proofs.Ytkmfjlfejdoehaa
open Go.Eng
def lLCheck1 : LSpec := ⟨StT, .bool, [], fun v _ => emptyS v⟩
theorem fLCheck1 : FnOk Try.prog 115 := ⟨_, Try.func115, by decide, rfl⟩
theorem pLCheck1 : PSound Try.prog 115 lLCheck1.p := by
  refine psound (T := tab) (S := (spOf [])) (keep := k115) (by kernel_rfl) tabOk spNil (by kernel_rfl) Try.func115 (by kernel_rfl) (by decide) fun xs hg hp => ?_
  obtain ⟨⟨key, xs⟩, ⟨⟩⟩ := xs
  show vfun tab _ k115 Try.f115 [.agg [.s key, .sl VerT xs]] [] _
  refine Ev.out ?_
  repeat' (first | ((with_reducible refine Ev.mk ?_); conv => whnf) | (with_reducible refine And.intro ?_ ?_) | (intro h))
  exact Leaf.mk rfl
def checkL (l : List Stk) : Int := if mayL l = 0 then (if 1016 < sizeF l then 5 else 0) else mayL l
def sLSize : PSpec := ⟨[.st SsT], [⟨false, [.d (.int .i64)]⟩], fun x => List.length x.1 ≤ 100000, fun x => (((sizeF x.1 : Nat), ()), ())⟩
theorem fLSize : FnOk Try.prog 54 := ⟨_, Try.func54, by decide, rfl⟩
theorem pLSize : PSound Try.prog 54 sLSize := by
  refine psound (T := tab) (S := (spOf [(84, sLay14.spec (lsOf []))])) (keep := k54) (by kernel_rfl) tabOk (spCons (pOk pLay14 fLay14 (by decide) lsNil) spNil) (by kernel_rfl) Try.func54 (by kernel_rfl) (by decide) fun xs hg hp => ?_
  obtain ⟨xs, ⟨⟩⟩ := xs
  change List Stk at xs
  change xs.length ≤ 100000 at hp
  clear hg
  show vfun tab _ k54 Try.f54 [.agg [.sl StT xs]] [] _
  refine Ev.out ?_
  repeat' (first | ((with_reducible refine Ev.mk ?_); conv => whnf) | (with_reducible refine And.intro ?_ ?_) | (intro h))
  all_goals first | exact Leaf.mk hp | exact Leaf.mk rfl
def sLCheck : PSpec := ⟨[.st SsT], [⟨false, [.d (.int .i64)]⟩], fun x => List.length x.1 ≤ 100000, fun x => ((checkL x.1, ()), ())⟩
theorem fLCheck : FnOk Try.prog 82 := ⟨_, Try.func82, by decide, rfl⟩
theorem pLCheck : PSound Try.prog 82 sLCheck := by
  refine psound (T := tab) (S := (spOf [(113, sCheck.spec (lsOf [(115, lLCheck1)])), (114, sContainsFuncT.spec (lsOf [(115, lLCheck1)])), (54, sLSize.spec (lsOf [(115, lLCheck1)]))])) (keep := k82) (by kernel_rfl) tabOk (spCons (pOk pCheck fCheck (by decide) ((lsCons ⟨pLCheck1, fLCheck1⟩ lsNil))) (spCons (pOk pContainsFuncT fContainsFuncT (by decide) ((lsCons ⟨pLCheck1, fLCheck1⟩ lsNil))) (spCons (pOk pLSize fLSize (by decide) ((lsCons ⟨pLCheck1, fLCheck1⟩ lsNil))) spNil))) (by kernel_rfl) Try.func82 (by kernel_rfl) (by decide) fun xs hg hp => ?_
  obtain ⟨xs, ⟨⟩⟩ := xs
  change List Stk at xs
  change xs.length ≤ 100000 at hp
  clear hg
  show vfun tab _ k82 Try.f82 [.agg [.sl StT xs]] [] _
  refine Ev.out ?_
  repeat' (first | ((with_reducible refine Ev.mk ?_); conv => whnf) | (with_reducible refine And.intro ?_ ?_) | (intro h))
  all_goals (try simp only [decide_eq_true_eq, decide_eq_false_iff_not, beq_iff_eq, bne_iff_ne, beq_eq_false_iff_ne, bne_eq_false_iff_eq, Int.toNat_natCast, ge_iff_le, gt_iff_lt, Bool.not_eq_true', Bool.not_eq_false', Int.not_lt, Int.not_le, ne_eq] at *)
  all_goals (try dsimp only [Ty.den, Ty.dflt, StT] at *)
  all_goals (try simp only [eq4, ne4, eq3, ne3, eq2, ne2, Prod.eta, List.length_cons, List.length_nil, List.length_append, Nat.zero_add] at *)
  all_goals (try simp (disch := omega) only [wrap64] at *)
  all_goals try first | exact leafDraw (by kernel_rfl) | exact Leaf.mk trivial | (refine Leaf.mk ?_; omega) | (refine Leaf.mk ?_; unfold maxLen; omega)
  refine LoopVC.on (fun i : Nat => [(10, .i .i64 i)]) (fun _ => []) (fun i => i ≤ xs.length ∧ firstS xs = firstS (xs.drop i)) (fun i => xs.length - i) 0 rfl ⟨by omega, rfl⟩ ?_
  intro i ⟨hi, he⟩
  repeat' (first | ((with_reducible refine Ev.mk ?_); conv => whnf) | (with_reducible refine And.intro ?_ ?_) | (intro h))
  all_goals (try simp only [decide_eq_true_eq, decide_eq_false_iff_not, beq_iff_eq, bne_iff_ne, beq_eq_false_iff_ne, bne_eq_false_iff_eq, Int.toNat_natCast, ge_iff_le, gt_iff_lt, Bool.not_eq_true', Bool.not_eq_false', Int.not_lt, Int.not_le, ne_eq] at *)
  all_goals (try dsimp only [Ty.den, Ty.dflt, StT, sCheck] at *)
  all_goals (try simp only [eq4, ne4, eq3, ne3, eq2, ne2, Prod.eta, List.length_cons, List.length_nil, List.length_append, Nat.zero_add] at *)
  all_goals (try simp (disch := omega) only [wrap64] at *)
  all_goals try first | exact leafDraw (by kernel_rfl) | exact Leaf.mk trivial | (refine Leaf.mk ?_; omega) | (refine Leaf.mk ?_; unfold maxLen; omega)
  · rw [firstS_at (by omega), if_neg h] at he
    refine Leaf.mk (ret1 (show check (xs.getD i stk0) = checkL xs from ?_))
    have hm : mayL xs = check (xs.getD i stk0) := by rw [mayL, if_neg (by rw [he]; exact h), he]
    rw [checkL, if_neg (by rw [hm]; exact h), hm]
  · rw [firstS_at (by omega), if_pos h] at he
    exact Leaf.mk ⟨i + 1, rfl, ⟨by omega, he⟩, by omega⟩
  all_goals
    rw [drop_end (by omega)] at he
    have h0 : firstS xs = 0 := he
  · refine Leaf.mk (ret1 (show 4 = checkL xs from ?_))
    have hm : mayL xs = 4 := by rw [mayL, if_pos h0, if_pos]; assumption
    rw [checkL, if_neg (by rw [hm]; decide), hm]
  have hM : mayL xs = if Up xs xs.length then 0 else 12 := by
    rw [mayL, if_pos h0, if_neg]
    intro hc
    have h2 : xs.any emptyS = false := by assumption
    rw [hc] at h2; exact absurd h2 (by simp)
  refine LoopVC.on (fun i : Nat => [(6, .i .i64 i)]) (fun _ => []) (fun i => 1 ≤ i ∧ Up xs i) (fun i => xs.length - i) 1 rfl ⟨by omega, fun j hj hj1 => by omega⟩ ?_
  intro i ⟨hi, hu⟩
  repeat' (first | ((with_reducible refine Ev.mk ?_); conv => whnf) | (with_reducible refine And.intro ?_ ?_) | (intro h))
  all_goals (try simp only [decide_eq_true_eq, decide_eq_false_iff_not, beq_iff_eq, bne_iff_ne, beq_eq_false_iff_ne, bne_eq_false_iff_eq, Int.toNat_natCast, ge_iff_le, gt_iff_lt, Bool.not_eq_true', Bool.not_eq_false', Int.not_lt, Int.not_le, ne_eq] at *)
  all_goals (try dsimp only [Ty.den, Ty.dflt, StT, sLSize] at *)
  all_goals (try simp only [eq4, ne4, eq3, ne3, eq2, ne2, Prod.eta, List.length_cons, List.length_nil, List.length_append, Nat.zero_add] at *)
  all_goals (try simp (disch := omega) only [wrap64] at *)
  all_goals try first | exact leafDraw (by kernel_rfl) | exact Leaf.mk trivial | (refine Leaf.mk ?_; omega) | (refine Leaf.mk ?_; unfold maxLen; omega)
  all_goals try rw [show ((i : Int) - 1).toNat = i - 1 by omega] at h
  · refine Leaf.mk (ret1 (show 12 = checkL xs from ?_))
    have hm : mayL xs = 12 := by rw [hM, if_neg (up_not hi (by omega) h)]
    rw [checkL, if_neg (by rw [hm]; decide), hm]
  · exact Leaf.mk ⟨i + 1, rfl, ⟨by omega, up_step hu (sless_iff.1 h)⟩, by omega⟩
  all_goals
    have hm : mayL xs = 0 := by rw [hM, if_pos (show Up xs xs.length from fun j hj hj1 => hu j (by omega) hj1)]
  · refine Leaf.mk (ret1 (show 5 = checkL xs from ?_))
    rw [checkL, if_pos hm, if_pos (by omega)]
  · refine Leaf.mk (ret1 (show 0 = checkL xs from ?_))
    rw [checkL, if_pos hm, if_neg (by omega)]
end Go.Proofs.Ytkmfjlfejdoehaa

set_option linter.unusedVariables false
set_option linter.unusedSimpArgs false
set_option maxRecDepth 8000
set_option maxHeartbeats 4000000
namespace Go.Proofs.Ytkmfjlfejdoehaa
open Go.Eng
def keyIs (k : List UInt8) (s : Stk) : Bool := s.1 == k
def plL (l : List Stk) (k : List UInt8) : Int := idxF (keyIs k) l 0
def lastL (k : List UInt8) (l : List Stk) : Nat → Nat
  | 0 => 0
  | i + 1 => if sless (l.getD i stk0).1 k = true then i + 1 else lastL k l i
theorem lastL_le (k : List UInt8) (l : List Stk) : ∀ i, lastL k l i ≤ i
  | 0 => Nat.le_refl _
  | i + 1 => by
    have := lastL_le k l i
    rw [lastL]; split <;> omega
def withF (l : List Stk) (k : List UInt8) : List Stk := if plL l k < 0 then l.take (lastL k l l.length) ++ (k, []) :: l.drop (lastL k l l.length) else l
end Go.Proofs.Ytkmfjlfejdoehaa
