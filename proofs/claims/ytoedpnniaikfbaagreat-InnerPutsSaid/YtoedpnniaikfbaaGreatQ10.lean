import Derived.Test.YtoedpnniaikfbaaGreatQ9
import Derived.Test.YtoedpnniaikfbaaGreatQ7
import Derived.Test.YtoedpnniaikfbaaGreatEng4
/- Texts, one behind the other. -/
set_option linter.unusedVariables false
set_option linter.unusedSimpArgs false
set_option maxRecDepth 8000
set_option maxHeartbeats 4000000
namespace Go.Proofs.YtoedpnniaikfbaaGreat
open Go.Eng
def sIOwnD : PSpec := ⟨[.d InT], [⟨true, [.d InT]⟩], fun x => IPre x.1, fun x => ((x.1, ()), ())⟩
theorem fIOwnD : FnOk Tryz.prog 45 := ⟨_, Tryz.func45, by decide, rfl⟩
theorem pIOwnD : PSound Tryz.prog 45 sIOwnD := by
  refine psound (T := tab) (S := (spOf [])) (keep := k45) (by kernel_rfl) tabOk spNil (by kernel_rfl) Tryz.func45 (by kernel_rfl) (by decide) fun xs hg hp => ?_
  obtain ⟨⟨ps, ks, bs⟩, ⟨⟩⟩ := xs
  clear hg
  change List (List UInt8) at ps
  change List Int at ks
  change List (List Msg) at bs
  change IPre (ps, ks, bs) at hp
  have hpp := hp.p
  have hpk := hp.k
  have hpb := hp.b
  have hbl := fun i => hp.bl i
  dsimp only at hpp hpk hpb hbl
  show vfun tab _ k45 Tryz.f45 [.agg [.sl .str ps, .sl (.int .i64) ks, .sl (.slice MsgT) bs]] [] _
  refine Ev.out ?_
  repeat' (first | ((with_reducible refine Ev.mk ?_); conv => whnf) | (with_reducible refine And.intro ?_ ?_) | (intro h))
  all_goals (try simp only [decide_eq_true_eq, decide_eq_false_iff_not, beq_iff_eq, bne_iff_ne, beq_eq_false_iff_ne, bne_eq_false_iff_eq, Int.toNat_natCast, ge_iff_le, gt_iff_lt, Bool.not_eq_true', Bool.not_eq_false', Int.not_lt, Int.not_le, ne_eq] at *)
  all_goals (try dsimp only [Ty.den, Ty.dflt, InT] at *)
  all_goals (try simp only [eq4, ne4, eq3, ne3, eq2, ne2, Prod.eta, List.length_cons, List.length_nil, List.length_append, Nat.zero_add] at *)
  all_goals (try simp (disch := omega) only [wrap64] at *)
  all_goals try first | exact leafDraw (by kernel_rfl) | exact Leaf.mk trivial | (refine Leaf.mk ?_; omega) | (refine Leaf.mk ?_; unfold maxLen; omega)
  rw [cp_all, cp_all]
  refine LoopVC.weak [(.cell 1 2, .nil 46 (.slice MsgT))] (fun i : Nat => [(29, .i .i64 i)]) (fun i => [(4, .arr 46 (.slice MsgT) (bs.take i))]) (fun i => i ≤ bs.length) (fun i => bs.length - i) 0 (Ev.mk ?_)
  (conv => whnf)
  refine ⟨Leaf.mk ?_, Leaf.mk ?_, ?_⟩
  · rfl
  · omega
  intro i hi
  repeat' (first | ((with_reducible refine Ev.mk ?_); conv => whnf) | (with_reducible refine And.intro ?_ ?_) | (intro h))
  all_goals (try simp only [decide_eq_true_eq, decide_eq_false_iff_not, beq_iff_eq, bne_iff_ne, beq_eq_false_iff_ne, bne_eq_false_iff_eq, Int.toNat_natCast, ge_iff_le, gt_iff_lt, Bool.not_eq_true', Bool.not_eq_false', Int.not_lt, Int.not_le, ne_eq] at *)
  all_goals (try dsimp only [Ty.den, Ty.dflt, InT] at *)
  all_goals (try simp only [eq4, ne4, eq3, ne3, eq2, ne2, Prod.eta, List.length_cons, List.length_nil, List.length_append, Nat.zero_add] at *)
  all_goals (try simp (disch := omega) only [wrap64] at *)
  all_goals try first | exact leafDraw (by kernel_rfl) | exact Leaf.mk trivial | (refine Leaf.mk ?_; omega) | (refine Leaf.mk ?_; unfold maxLen; omega)
  all_goals have htl : (bs.take i).length = i := by rw [List.length_take]; omega
  all_goals first
    | (refine Leaf.mk ?_; have := hbl i; omega)
    | (refine Leaf.mk ?_; have := hbl i; unfold maxLen; omega)
    | (refine Leaf.mk ?_; omega)
    | (refine Leaf.mk ?_; unfold maxLen; omega)
    | (refine Leaf.mk (Exists.intro (i + 1) ⟨?_, by omega, by omega⟩)
       rw [take_at [] (show i < bs.length by omega)]; first | rfl | (rw [cp_all]; rfl))
    | (have hbt : bs.take i = bs := List.take_of_length_le (by omega)
       rw [hbt]; exact Leaf.mk rfl)
    | skip
def sHas : PSpec := ⟨[.d InT, .d (.int .i64)], [⟨false, [.d .bool]⟩], fun x => IPre x.1, fun x => ((hasI x.1 x.2.1, ()), ())⟩
theorem hasI_iff {n : Inn} {i : Int} : hasI n i = true ↔ wholeI n = true ∧ 0 ≤ i ∧ i < (n.2.1.length : Int) := decide_eq_true_iff
theorem fHas : FnOk Tryz.prog 49 := ⟨_, Tryz.func49, by decide, rfl⟩
theorem pHas : PSound Tryz.prog 49 sHas := by
  refine psound (T := tab) (S := (spOf [(46, sWhole.spec (lsOf []))])) (keep := k49) (by kernel_rfl) tabOk (spCons (pOk pWhole fWhole (by decide) lsNil) spNil) (by kernel_rfl) Tryz.func49 (by kernel_rfl) (by decide) fun xs hg hp => ?_
  obtain ⟨⟨ps, ks, bs⟩, i, ⟨⟩⟩ := xs
  clear hg
  change List (List UInt8) at ps
  change List Int at ks
  change List (List Msg) at bs
  change Int at i
  change IPre (ps, ks, bs) at hp
  have hpp := hp.p
  have hpk := hp.k
  have hpb := hp.b
  have hbl := fun i => hp.bl i
  dsimp only at hpp hpk hpb hbl
  show vfun tab _ k49 Tryz.f49 [.agg [.sl .str ps, .sl (.int .i64) ks, .sl (.slice MsgT) bs], .i .i64 i] [] _
  refine Ev.out ?_
  repeat' (first | ((with_reducible refine Ev.mk ?_); conv => whnf) | (with_reducible refine And.intro ?_ ?_) | (intro h))
  all_goals (try simp only [decide_eq_true_eq, decide_eq_false_iff_not, beq_iff_eq, bne_iff_ne, beq_eq_false_iff_ne, bne_eq_false_iff_eq, Int.toNat_natCast, ge_iff_le, gt_iff_lt, Bool.not_eq_true', Bool.not_eq_false', Int.not_lt, Int.not_le, ne_eq] at *)
  all_goals (try dsimp only [Ty.den, Ty.dflt, InT, sWhole] at *)
  all_goals (try simp only [eq4, ne4, eq3, ne3, eq2, ne2, Prod.eta, List.length_cons, List.length_nil, List.length_append, Nat.zero_add] at *)
  all_goals (try simp (disch := omega) only [wrap64] at *)
  all_goals try first | exact leafDraw (by kernel_rfl) | exact Leaf.mk trivial | (refine Leaf.mk ?_; omega) | (refine Leaf.mk ?_; unfold maxLen; omega)
  all_goals
    refine Leaf.mk (ret1 (show _ = hasI (ps, ks, bs) i from ?_))
    rw [Bool.eq_iff_iff, hasI_iff]
    dsimp only
    simp_all
  omega
theorem retTk {u v : List Msg × Inn} (h : u = v) : (some ((u.1, ()), (u.2, ()), ()) : Option ((List Msg × Unit) × (Inn × Unit) × Unit)) = some ((v.1, ()), (v.2, ()), ()) := by rw [h]
theorem retIn {u v : Inn} (h : u = v) : (some ((u, ()), ()) : Option ((Inn × Unit) × Unit)) = some ((v, ()), ()) := by rw [h]
theorem not_of_false {b : Bool} (h : b = false) : ¬ b = true := by rw [h]; simp
def sITake : PSpec := ⟨[.d InT, .d (.int .i64)], [⟨false, [.d (.slice MsgT)]⟩, ⟨true, [.d InT]⟩], fun x => IPre x.1, fun x => (((takeI x.1 x.2.1).1, ()), ((takeI x.1 x.2.1).2, ()), ())⟩
theorem fITake : FnOk Tryz.prog 17 := ⟨_, Tryz.func17, by decide, rfl⟩
theorem pITake : PSound Tryz.prog 17 sITake := by
  refine psound (T := tab) (S := (spOf [(45, sIOwn.spec (lsOf [])), (49, sHas.spec (lsOf []))])) (keep := k17) (by kernel_rfl) tabOk (spCons (pOk pIOwn fIOwn (by decide) lsNil) (spCons (pOk pHas fHas (by decide) lsNil) spNil)) (by kernel_rfl) Tryz.func17 (by kernel_rfl) (by decide) fun xs hg hp => ?_
  obtain ⟨⟨ps, ks, bs⟩, i, ⟨⟩⟩ := xs
  clear hg
  change List (List UInt8) at ps
  change List Int at ks
  change List (List Msg) at bs
  change Int at i
  change IPre (ps, ks, bs) at hp
  have hpp := hp.p
  have hpk := hp.k
  have hpb := hp.b
  have hbl := fun i => hp.bl i
  dsimp only at hpp hpk hpb hbl
  show vfun tab _ k17 Tryz.f17 [.agg [.sl .str ps, .sl (.int .i64) ks, .sl (.slice MsgT) bs], .i .i64 i] [] _
  refine Ev.out ?_
  repeat' (first | ((with_reducible refine Ev.mk ?_); conv => whnf) | (with_reducible refine And.intro ?_ ?_) | (intro h))
  all_goals (try simp only [decide_eq_true_eq, decide_eq_false_iff_not, beq_iff_eq, bne_iff_ne, beq_eq_false_iff_ne, bne_eq_false_iff_eq, Int.toNat_natCast, ge_iff_le, gt_iff_lt, Bool.not_eq_true', Bool.not_eq_false', Int.not_lt, Int.not_le, ne_eq] at *)
  all_goals (try dsimp only [Ty.den, Ty.dflt, InT, sIOwn, sHas] at *)
  all_goals (try simp only [eq4, ne4, eq3, ne3, eq2, ne2, Prod.eta, List.length_cons, List.length_nil, List.length_append, Nat.zero_add] at *)
  all_goals (try simp (disch := omega) only [wrap64] at *)
  all_goals try first | exact leafDraw (by kernel_rfl) | exact Leaf.mk trivial | (refine Leaf.mk ?_; omega) | (refine Leaf.mk ?_; unfold maxLen; omega)
  · refine Leaf.mk (retTk (u := ([], (ps, ks, bs))) (v := takeI (ps, ks, bs) i) ?_)
    rw [takeI, if_neg (not_of_false ‹_›)]
  all_goals
    obtain ⟨hw, hi0, hi1⟩ := hasI_iff.1 (show hasI (ps, ks, bs) i = true from ‹_›)
    obtain ⟨w1, w2⟩ := wholeI_iff.1 hw
    dsimp only at hi1 w1 w2
  all_goals first
    | (refine Leaf.mk ?_; omega)
    | (refine Leaf.mk (retTk (u := (bs.getD i.toNat [], (ps, ks, bs.set i.toNat []))) (v := takeI (ps, ks, bs) i) ?_)
       rw [takeI, if_pos ‹_›])
def sIRenew : PSpec := ⟨[.d InT, .d (.int .i64), .d (.int .i64)], [⟨true, [.d InT]⟩], fun x => IPre x.1, fun x => ((renewI x.1 x.2.1 x.2.2.1, ()), ())⟩
theorem fIRenew : FnOk Tryz.prog 19 := ⟨_, Tryz.func19, by decide, rfl⟩
theorem pIRenew : PSound Tryz.prog 19 sIRenew := by
  refine psound (T := tab) (S := (spOf [(45, sIOwn.spec (lsOf [])), (49, sHas.spec (lsOf []))])) (keep := k19) (by kernel_rfl) tabOk (spCons (pOk pIOwn fIOwn (by decide) lsNil) (spCons (pOk pHas fHas (by decide) lsNil) spNil)) (by kernel_rfl) Tryz.func19 (by kernel_rfl) (by decide) fun xs hg hp => ?_
  obtain ⟨n, i, kid, ⟨⟩⟩ := xs
  obtain ⟨ps, ks, bs⟩ := n
  clear hg
  change List (List UInt8) at ps
  change List Int at ks
  change List (List Msg) at bs
  change Int at i kid
  change IPre (ps, ks, bs) at hp
  have hpk := hp.k
  dsimp only at hpk
  show vfun tab _ k19 Tryz.f19 [.agg [.sl .str ps, .sl (.int .i64) ks, .sl (.slice MsgT) bs], .i .i64 i, .i .i64 kid] [] _
  refine Ev.out ?_
  repeat' (first | ((with_reducible refine Ev.mk ?_); conv => whnf) | (with_reducible refine And.intro ?_ ?_) | (intro h))
  all_goals (try simp only [decide_eq_true_eq, decide_eq_false_iff_not, beq_iff_eq, bne_iff_ne, beq_eq_false_iff_ne, bne_eq_false_iff_eq, Int.toNat_natCast, ge_iff_le, gt_iff_lt, Bool.not_eq_true', Bool.not_eq_false', Int.not_lt, Int.not_le, ne_eq] at *)
  all_goals (try dsimp only [Ty.den, Ty.dflt, InT, sIOwn, sHas] at *)
  all_goals (try simp only [eq4, ne4, eq3, ne3, eq2, ne2, Prod.eta, List.length_cons, List.length_nil, List.length_append, Nat.zero_add] at *)
  all_goals (try simp (disch := omega) only [wrap64] at *)
  all_goals try first | exact leafDraw (by kernel_rfl) | exact Leaf.mk trivial | (refine Leaf.mk ?_; omega) | (refine Leaf.mk ?_; unfold maxLen; omega)
  rotate_left 4
  · refine Leaf.mk (retIn (u := (ps, ks, bs)) (v := renewI (ps, ks, bs) i kid) ?_)
    rw [renewI, if_neg (not_of_false (show hasI (ps, ks, bs) i = false by assumption))]
  all_goals
    obtain ⟨hw, hi0, hi1⟩ := hasI_iff.1 (show hasI (ps, ks, bs) i = true from ‹_›)
    obtain ⟨w1, w2⟩ := wholeI_iff.1 hw
    dsimp only at hi1 w1 w2
  all_goals first
    | (refine Leaf.mk ?_; omega)
    | (refine Leaf.mk (retIn (u := (ps, ks.set i.toNat kid, bs)) (v := renewI (ps, ks, bs) i kid) ?_)
       rw [renewI, if_pos (show hasI (ps, ks, bs) i = true by assumption)])
theorem wrapHalf {n : Nat} (h : n ≤ 1000) : IntKind.i64.wrap ((n : Int).tdiv 2) = ((n / 2 : Nat) : Int) := by
  rw [Int.tdiv_eq_ediv_of_nonneg (by omega), show ((n : Int) / 2) = ((n / 2 : Nat) : Int) by omega]
  exact wrap64 (by omega)
theorem retSp {u v : Inn × Inn × List UInt8} (h : u = v) : (some ((u.1, ()), (u.2.1, ()), (u.2.2, ()), ()) : Option ((Inn × Unit) × (Inn × Unit) × (List UInt8 × Unit) × Unit)) = some ((v.1, ()), (v.2.1, ()), (v.2.2, ()), ()) := by rw [h]
theorem ipre_cut {ps : List (List UInt8)} {ks : List Int} {bs : List (List Msg)} (h : IPre (ps, ks, bs)) (a b c d e f : Nat) : IPre ((ps.take a).drop b, (ks.take c).drop d, (bs.take e).drop f) := by
  have hm := h.m
  dsimp only at hm
  have h1 := flat_le (xs := bs) e
  have h2 : ((bs.take e).drop f).flatten.length ≤ (bs.take e).flatten.length := by
    conv => rhs; rw [← List.take_append_drop f (bs.take e), List.flatten_append, List.length_append]
    omega
  have hp := h.p; have hk := h.k; have hb := h.b
  dsimp only at hp hk hb
  refine ⟨?_, fun p hp => h.pt p (List.mem_of_mem_take (List.mem_of_mem_drop hp)), ?_, ?_, ?_⟩
  · simp only [List.length_drop, List.length_take]; omega
  · simp only [List.length_drop, List.length_take]; omega
  · simp only [List.length_drop, List.length_take]; omega
  · dsimp only; omega
def sISplit : PSpec := ⟨[.d InT], [⟨true, [.d InT]⟩, ⟨true, [.d InT]⟩, ⟨false, [.d .str]⟩], fun x => IPre x.1, fun x => (((splitI x.1).1, ()), ((splitI x.1).2.1, ()), ((splitI x.1).2.2, ()), ())⟩
theorem fISplit : FnOk Tryz.prog 20 := ⟨_, Tryz.func20, by decide, rfl⟩
theorem pISplit : PSound Tryz.prog 20 sISplit := by
  refine psound (T := tab) (S := (spOf [(45, sIOwnD.spec (lsOf [])), (46, sWhole.spec (lsOf []))])) (keep := k20) (by kernel_rfl) tabOk (spCons (pOk pIOwnD fIOwnD (by decide) lsNil) (spCons (pOk pWhole fWhole (by decide) lsNil) spNil)) (by kernel_rfl) Tryz.func20 (by kernel_rfl) (by decide) fun xs hg hp => ?_
  obtain ⟨⟨ps, ks, bs⟩, ⟨⟩⟩ := xs
  clear hg
  change List (List UInt8) at ps
  change List Int at ks
  change List (List Msg) at bs
  change IPre (ps, ks, bs) at hp
  have hpp := hp.p
  have hpk := hp.k
  have hpb := hp.b
  have hbl := fun i => hp.bl i
  dsimp only at hpp hpk hpb hbl
  show vfun tab _ k20 Tryz.f20 [.agg [.sl .str ps, .sl (.int .i64) ks, .sl (.slice MsgT) bs]] [] _
  refine Ev.out ?_
  repeat' (first | ((with_reducible refine Ev.mk ?_); conv => whnf) | (with_reducible refine And.intro ?_ ?_) | (intro h))
  all_goals (try simp only [decide_eq_true_eq, decide_eq_false_iff_not, beq_iff_eq, bne_iff_ne, beq_eq_false_iff_ne, bne_eq_false_iff_eq, Int.toNat_natCast, ge_iff_le, gt_iff_lt, Bool.not_eq_true', Bool.not_eq_false', Int.not_lt, Int.not_le, ne_eq] at *)
  all_goals (try dsimp only [Ty.den, Ty.dflt, InT, sIOwnD, sWhole] at *)
  all_goals (try simp only [eq4, ne4, eq3, ne3, eq2, ne2, Prod.eta, List.length_cons, List.length_nil, List.length_append, Nat.zero_add] at *)
  all_goals (try simp (disch := omega) only [wrap64] at *)
  all_goals try first | exact leafDraw (by kernel_rfl) | exact Leaf.mk trivial | (refine Leaf.mk ?_; omega) | (refine Leaf.mk ?_; unfold maxLen; omega)
  all_goals first
    | exact Leaf.mk hp
    | exact Leaf.mk (ipre_cut hp _ _ _ _ _ _)
    | (refine Leaf.mk (retSp (u := ((ps, ks, bs), ([], [], []), [])) (v := splitI (ps, ks, bs)) ?_)
       rw [splitI, if_neg (fun hc => by have h1 := hc.1; rw [show wholeI (ps, ks, bs) = false by assumption] at h1; cases h1)]; done)
    | (refine Leaf.mk (retSp (u := ((ps, ks, bs), ([], [], []), [])) (v := splitI (ps, ks, bs)) ?_)
       rw [splitI, if_neg (fun hc => by have h1 := hc.2; dsimp only at h1; omega)]; done)
    | skip
  all_goals
    have hw := wholeI_iff.1 (show wholeI (ps, ks, bs) = true by assumption)
    have w1 := hw.1
    have w2 := hw.2
    dsimp only at w1 w2
    have e1 := wrapHalf (n := ks.length) (by omega)
    have e2 : IntKind.i64.wrap (((ks.length / 2 : Nat) : Int) - 1) = ((ks.length / 2 - 1 : Nat) : Int) := by rw [wrap64 (by omega)]; omega
    rw [e1]
    try rw [e2]
  all_goals first
    | (refine Leaf.mk ?_; omega)
    | (refine Leaf.mk ?_; unfold maxLen; omega)
    | skip
  all_goals
    refine Leaf.mk (retSp (u := ((_, _, _), (_, _, _), _)) (v := splitI (ps, ks, bs)) ?_)
    rw [splitI, if_pos ⟨by assumption, by dsimp only; omega⟩]
    simp only [Int.toNat_natCast, List.take_length, Int.toNat_zero, List.drop_zero]
    all_goals rfl
def wsum (l : List Msg) : Int := ((l.flatMap pm).length : Nat)
theorem wsum_at {l : List Msg} {j : Nat} (h : j < l.length) : wsum (l.take (j + 1)) = wsum (l.take j) + ((pm (l.getD j msg0)).length : Nat) := by
  rw [wsum, flat_at2 msg0 h, List.length_append, wsum]; omega
theorem wsum_le {l : List Msg} (h : l.length ≤ 5000) (j : Nat) : 0 ≤ wsum (l.take j) ∧ wsum (l.take j) ≤ 520000 := by
  have := pms_len (l.take j)
  have h2 : (l.take j).length ≤ 5000 := by rw [List.length_take]; omega
  have h3 : (l.take j).length * 104 ≤ 5000 * 104 := Nat.mul_le_mul_right _ h2
  rw [wsum]; omega
def sWeigh : PSpec := ⟨[.d InT, .d (.int .i64)], [⟨false, [.d (.int .i64)]⟩], fun x => IPre x.1, fun x => ((weighI x.1 x.2.1, ()), ())⟩
theorem fWeigh : FnOk Tryz.prog 22 := ⟨_, Tryz.func22, by decide, rfl⟩
theorem pWeigh : PSound Tryz.prog 22 sWeigh := by
  refine psound (T := tab) (S := (spOf [(49, sHas.spec (lsOf [])), (53, sMSize.spec (lsOf []))])) (keep := k22) (by kernel_rfl) tabOk (spCons (pOk pHas fHas (by decide) lsNil) (spCons (pOk pMSize fMSize (by decide) lsNil) spNil)) (by kernel_rfl) Tryz.func22 (by kernel_rfl) (by decide) fun xs hg hp => ?_
  obtain ⟨⟨ps, ks, bs⟩, i, ⟨⟩⟩ := xs
  clear hg
  change List (List UInt8) at ps
  change List Int at ks
  change List (List Msg) at bs
  change Int at i
  change IPre (ps, ks, bs) at hp
  have hpp := hp.p
  have hpk := hp.k
  have hpb := hp.b
  have hbl := fun i => hp.bl i
  dsimp only at hpp hpk hpb hbl
  show vfun tab _ k22 Tryz.f22 [.agg [.sl .str ps, .sl (.int .i64) ks, .sl (.slice MsgT) bs], .i .i64 i] [] _
  refine Ev.out ?_
  repeat' (first | ((with_reducible refine Ev.mk ?_); conv => whnf) | (with_reducible refine And.intro ?_ ?_) | (intro h))
  all_goals (try simp only [decide_eq_true_eq, decide_eq_false_iff_not, beq_iff_eq, bne_iff_ne, beq_eq_false_iff_ne, bne_eq_false_iff_eq, Int.toNat_natCast, ge_iff_le, gt_iff_lt, Bool.not_eq_true', Bool.not_eq_false', Int.not_lt, Int.not_le, ne_eq] at *)
  all_goals (try dsimp only [Ty.den, Ty.dflt, InT, sHas] at *)
  all_goals (try simp only [eq4, ne4, eq3, ne3, eq2, ne2, Prod.eta, List.length_cons, List.length_nil, List.length_append, Nat.zero_add] at *)
  all_goals (try simp (disch := omega) only [wrap64] at *)
  all_goals try first | exact leafDraw (by kernel_rfl) | exact Leaf.mk trivial | (refine Leaf.mk ?_; omega) | (refine Leaf.mk ?_; unfold maxLen; omega)
  · refine Leaf.mk (ret1 (show (0 : Int) = weighI (ps, ks, bs) i from ?_))
    rw [weighI, if_neg (not_of_false (show hasI (ps, ks, bs) i = false by assumption))]
  all_goals
    obtain ⟨hw, hi0, hi1⟩ := hasI_iff.1 (show hasI (ps, ks, bs) i = true from ‹_›)
    obtain ⟨w1, w2⟩ := wholeI_iff.1 hw
    dsimp only at hi1 w1 w2
  all_goals first
    | (refine Leaf.mk ?_; omega)
    | skip
  have hl := hbl i.toNat
  have hw : weighI (ps, ks, bs) i = wsum (bs.getD i.toNat []) := by rw [weighI, if_pos (show hasI (ps, ks, bs) i = true by assumption)]; rfl
  refine LoopVC.on (fun j : Nat => [(5, .i .i64 (wsum ((bs.getD i.toNat []).take j))), (18, .i .i64 j)]) (fun _ => []) (fun j => j ≤ (bs.getD i.toNat []).length) (fun j => (bs.getD i.toNat []).length - j) 0 rfl (by omega) ?_
  intro j hj
  have hsl := wsum_le hl j
  have hat := fun h => wsum_at (l := bs.getD i.toNat []) (j := j) h
  have hpl := pm_len ((bs.getD i.toNat []).getD j msg0)
  repeat' (first | ((with_reducible refine Ev.mk ?_); conv => whnf) | (with_reducible refine And.intro ?_ ?_) | (intro h))
  all_goals (try simp only [decide_eq_true_eq, decide_eq_false_iff_not, beq_iff_eq, bne_iff_ne, beq_eq_false_iff_ne, bne_eq_false_iff_eq, Int.toNat_natCast, ge_iff_le, gt_iff_lt, Bool.not_eq_true', Bool.not_eq_false', Int.not_lt, Int.not_le, ne_eq] at *)
  all_goals (try dsimp only [Ty.den, Ty.dflt, InT, sMSize] at *)
  all_goals (try simp only [eq4, ne4, eq3, ne3, eq2, ne2, Prod.eta, List.length_cons, List.length_nil, List.length_append, Nat.zero_add] at *)
  all_goals (try simp (disch := omega) only [wrap64] at *)
  all_goals try first | exact leafDraw (by kernel_rfl) | exact Leaf.mk trivial | (refine Leaf.mk ?_; omega) | (refine Leaf.mk ?_; unfold maxLen; omega)
  · have hpe : ((putR12 ((bs.getD i.toNat []).getD j msg0)).fst.length : Int) = ((pm ((bs.getD i.toNat []).getD j msg0)).length : Nat) := rfl
    refine Leaf.mk (Exists.intro (j + 1) ⟨?_, by omega, by omega⟩)
    rw [hat (by omega)]
    have e9 : IntKind.i64.wrap (wsum ((bs.getD i.toNat []).take j) + ((putR12 ((bs.getD i.toNat []).getD j msg0)).fst.length : Int)) = wsum ((bs.getD i.toNat []).take j) + ((pm ((bs.getD i.toNat []).getD j msg0)).length : Nat) := by rw [hpe]; exact wrap64 (by omega)
    erw [e9]; rfl
  · refine Leaf.mk (ret1 (show wsum ((bs.getD i.toNat []).take j) = weighI (ps, ks, bs) i from ?_))
    rw [hw, List.take_of_length_le (by omega)]
def sFullest : PSpec := ⟨[.d InT], [⟨false, [.d (.int .i64)]⟩], fun x => IPre x.1, fun x => ((fullestI x.1, ()), ())⟩
theorem fFullest : FnOk Tryz.prog 23 := ⟨_, Tryz.func23, by decide, rfl⟩
theorem pFullest : PSound Tryz.prog 23 sFullest := by
  refine psound (T := tab) (S := (spOf [(22, sWeigh.spec (lsOf []))])) (keep := k23) (by kernel_rfl) tabOk (spCons (pOk pWeigh fWeigh (by decide) lsNil) spNil) (by kernel_rfl) Tryz.func23 (by kernel_rfl) (by decide) fun xs hg hp => ?_
  obtain ⟨⟨ps, ks, bs⟩, ⟨⟩⟩ := xs
  clear hg
  change List (List UInt8) at ps
  change List Int at ks
  change List (List Msg) at bs
  change IPre (ps, ks, bs) at hp
  have hpp := hp.p
  have hpk := hp.k
  have hpb := hp.b
  have hbl := fun i => hp.bl i
  dsimp only at hpp hpk hpb hbl
  show vfun tab _ k23 Tryz.f23 [.agg [.sl .str ps, .sl (.int .i64) ks, .sl (.slice MsgT) bs]] [] _
  refine Ev.out ?_
  repeat' (first | ((with_reducible refine Ev.mk ?_); conv => whnf) | (with_reducible refine And.intro ?_ ?_) | (intro h))
  all_goals (try simp only [decide_eq_true_eq, decide_eq_false_iff_not, beq_iff_eq, bne_iff_ne, beq_eq_false_iff_ne, bne_eq_false_iff_eq, Int.toNat_natCast, ge_iff_le, gt_iff_lt, Bool.not_eq_true', Bool.not_eq_false', Int.not_lt, Int.not_le, ne_eq] at *)
  all_goals (try dsimp only [Ty.den, Ty.dflt, InT, sWeigh] at *)
  all_goals (try simp only [eq4, ne4, eq3, ne3, eq2, ne2, Prod.eta, List.length_cons, List.length_nil, List.length_append, Nat.zero_add] at *)
  all_goals (try simp (disch := omega) only [wrap64] at *)
  all_goals try first | exact leafDraw (by kernel_rfl) | exact Leaf.mk trivial | (refine Leaf.mk ?_; omega) | (refine Leaf.mk ?_; unfold maxLen; omega)
  refine LoopVC.on (fun i : Nat => [(3, .i .i64 (fullN (ps, ks, bs) i).1), (4, .i .i64 (fullN (ps, ks, bs) i).2), (10, .i .i64 i)]) (fun _ => []) (fun i => i ≤ ks.length) (fun i => ks.length - i) 0 rfl (by omega) ?_
  intro i hi
  repeat' (first | ((with_reducible refine Ev.mk ?_); conv => whnf) | (with_reducible refine And.intro ?_ ?_) | (intro h))
  all_goals (try simp only [decide_eq_true_eq, decide_eq_false_iff_not, beq_iff_eq, bne_iff_ne, beq_eq_false_iff_ne, bne_eq_false_iff_eq, Int.toNat_natCast, ge_iff_le, gt_iff_lt, Bool.not_eq_true', Bool.not_eq_false', Int.not_lt, Int.not_le, ne_eq] at *)
  all_goals (try dsimp only [Ty.den, Ty.dflt, InT, sWeigh] at *)
  all_goals (try simp only [eq4, ne4, eq3, ne3, eq2, ne2, Prod.eta, List.length_cons, List.length_nil, List.length_append, Nat.zero_add] at *)
  all_goals (try simp (disch := omega) only [wrap64] at *)
  all_goals try first | exact leafDraw (by kernel_rfl) | exact Leaf.mk trivial | (refine Leaf.mk ?_; omega) | (refine Leaf.mk ?_; unfold maxLen; omega)
  all_goals first
    | exact Leaf.mk hp
    | (refine Leaf.mk (Exists.intro (i + 1) ⟨?_, by omega, by omega⟩)
       rw [fullN, if_pos (show weighI (ps, ks, bs) i > (fullN (ps, ks, bs) i).2 by assumption)]; rfl)
    | (refine Leaf.mk (Exists.intro (i + 1) ⟨?_, by omega, by omega⟩)
       rw [fullN, if_neg (show ¬ weighI (ps, ks, bs) i > (fullN (ps, ks, bs) i).2 by omega)]; rfl)
    | (refine Leaf.mk (ret1 (show (fullN (ps, ks, bs) i).1 = fullestI (ps, ks, bs) from ?_))
       obtain rfl : i = ks.length := by omega
       rfl)
    | skip
theorem retBo {a b c d : List UInt8} (h1 : a = c) (h2 : b = d) : (some ((a, ()), (b, ()), ()) : Option ((List UInt8 × Unit) × (List UInt8 × Unit) × Unit)) = some ((c, ()), (d, ()), ()) := by rw [h1, h2]
def sBounds : PSpec := ⟨[.d InT, .d (.int .i64)], [⟨false, [.d .str]⟩, ⟨false, [.d .str]⟩], fun x => IPre x.1, fun x => ((loI x.1 x.2.1, ()), (hiI x.1 x.2.1, ()), ())⟩
theorem fBounds : FnOk Tryz.prog 21 := ⟨_, Tryz.func21, by decide, rfl⟩
theorem pBounds : PSound Tryz.prog 21 sBounds := by
  refine psound (T := tab) (S := (spOf [])) (keep := k21) (by kernel_rfl) tabOk spNil (by kernel_rfl) Tryz.func21 (by kernel_rfl) (by decide) fun xs hg hp => ?_
  obtain ⟨⟨ps, ks, bs⟩, i, ⟨⟩⟩ := xs
  clear hg
  change List (List UInt8) at ps
  change List Int at ks
  change List (List Msg) at bs
  change Int at i
  change IPre (ps, ks, bs) at hp
  have hpp := hp.p
  have hpk := hp.k
  have hpb := hp.b
  have hbl := fun i => hp.bl i
  dsimp only at hpp hpk hpb hbl
  show vfun tab _ k21 Tryz.f21 [.agg [.sl .str ps, .sl (.int .i64) ks, .sl (.slice MsgT) bs], .i .i64 i] [] _
  refine Ev.out ?_
  repeat' (first | ((with_reducible refine Ev.mk ?_); conv => whnf) | (with_reducible refine And.intro ?_ ?_) | (intro h))
  all_goals (try simp only [decide_eq_true_eq, decide_eq_false_iff_not, beq_iff_eq, bne_iff_ne, beq_eq_false_iff_ne, bne_eq_false_iff_eq, Int.toNat_natCast, ge_iff_le, gt_iff_lt, Bool.not_eq_true', Bool.not_eq_false', Int.not_lt, Int.not_le, ne_eq] at *)
  all_goals (try dsimp only [Ty.den, Ty.dflt, InT] at *)
  all_goals (try simp only [eq4, ne4, eq3, ne3, eq2, ne2, Prod.eta, List.length_cons, List.length_nil, List.length_append, Nat.zero_add] at *)
  all_goals (try simp (disch := omega) only [wrap64] at *)
  all_goals try first | exact leafDraw (by kernel_rfl) | exact Leaf.mk trivial | (refine Leaf.mk ?_; omega) | (refine Leaf.mk ?_; unfold maxLen; omega)
  all_goals
    have hlo : 0 < i ∧ i < (ks.length : Int) ∧ i ≤ (ps.length : Int) → loI (ps, ks, bs) i = ps.getD (i - 1).toNat [] := fun h => by rw [loI, if_pos h, show (i - 1).toNat = i.toNat - 1 by omega]
    have hlo2 : ¬ (0 < i ∧ i < (ks.length : Int) ∧ i ≤ (ps.length : Int)) → loI (ps, ks, bs) i = [] := fun h => by rw [loI, if_neg h]
    have hhi : 0 ≤ i ∧ i < (ks.length : Int) ∧ i < (ps.length : Int) → hiI (ps, ks, bs) i = ps.getD i.toNat [] := fun h => by rw [hiI, if_pos h]
    have hhi2 : ¬ (0 ≤ i ∧ i < (ks.length : Int) ∧ i < (ps.length : Int)) → hiI (ps, ks, bs) i = [] := fun h => by rw [hiI, if_neg h]
  all_goals first
    | exact Leaf.mk (retBo (a := []) (b := []) (c := loI (ps, ks, bs) i) (d := hiI (ps, ks, bs) i) (hlo2 (by omega)).symm (hhi2 (by omega)).symm)
    | exact Leaf.mk (retBo (a := ps.getD (i - 1).toNat []) (b := ps.getD i.toNat []) (c := loI (ps, ks, bs) i) (d := hiI (ps, ks, bs) i) (hlo (by omega)).symm (hhi (by omega)).symm)
    | exact Leaf.mk (retBo (a := ps.getD (i - 1).toNat []) (b := []) (c := loI (ps, ks, bs) i) (d := hiI (ps, ks, bs) i) (hlo (by omega)).symm (hhi2 (by omega)).symm)
    | exact Leaf.mk (retBo (a := []) (b := ps.getD i.toNat []) (c := loI (ps, ks, bs) i) (d := hiI (ps, ks, bs) i) (hlo2 (by omega)).symm (hhi (by omega)).symm)
    | skip
end Go.Proofs.YtoedpnniaikfbaaGreat

set_option linter.unusedVariables false
set_option linter.unusedSimpArgs false
set_option maxRecDepth 8000
set_option maxHeartbeats 4000000
namespace Go.Proofs.YtoedpnniaikfbaaGreat
open Go.Eng
theorem fOwnX : FnOk Tryz.prog 45 := ⟨_, Tryz.func45, by decide, rfl⟩
noncomputable def iOwnX : Eng.Spec := inl (exT tab) (spOf []) k45 Tryz.f45
theorem pOwnX : SpecOk Tryz.prog 45 iOwnX := inl_ok (exT_ok tabOk) spNil (by kernel_rfl) Tryz.func45 (by kernel_rfl)
def snds (l : List (Bool × List Msg)) : List (List Msg) := l.map fun r => r.2
theorem snds_true : ∀ (bs : List (List Msg)), snds (bs.map fun b => ((true, b) : Bool × List Msg)) = bs
  | [] => rfl
  | b :: bs => by rw [List.map_cons]; exact congrArg (b :: ·) (snds_true bs)
def sIAdd : PSpec := ⟨[.d InT, .d MsgT], [⟨true, [.d InT]⟩], fun x => IPre x.1, fun x => ((addI x.1 x.2.1, ()), ())⟩
theorem fIAdd : FnOk Tryz.prog 15 := ⟨_, Tryz.func15, by decide, rfl⟩
theorem pIAdd : PSound Tryz.prog 15 sIAdd := by
  refine psound (T := (exT tab)) (S := (spOf [(45, iOwnX), (46, sWhole.spec (lsOf [])), (47, sMCheck.spec (lsOf [])), (25, sRoute.spec (lsOf [])), (48, sWide.spec (lsOf []))])) (keep := k15) (by kernel_rfl) (exT_ok tabOk) (spCons (.inl ⟨pOwnX, fOwnX⟩) (spCons (pOk pWhole fWhole (by decide) lsNil) (spCons (pOk pMCheck fMCheck (by decide) lsNil) (spCons (pOk pRoute fRoute (by decide) lsNil) (spCons (pOk pWide fWide (by decide) lsNil) spNil))))) (by kernel_rfl) Tryz.func15 (by kernel_rfl) (by decide) fun xs hg hp => ?_
  obtain ⟨⟨ps, ks, bs⟩, ⟨kind, key, txn, ts, gone, val⟩, ⟨⟩⟩ := xs
  clear hg
  change List (List UInt8) at ps
  change List Int at ks
  change List (List Msg) at bs
  change Int at kind txn ts
  change List UInt8 at key val
  change Bool at gone
  change IPre (ps, ks, bs) at hp
  have hpp := hp.p
  have hpk := hp.k
  have hpb := hp.b
  have hbl := fun i => hp.bl i
  dsimp only at hpp hpk hpb hbl
  show vfun (exT tab) _ k15 Tryz.f15 [.agg [.sl .str ps, .sl (.int .i64) ks, .sl (.slice MsgT) bs], .agg [.i .u8 kind, .s key, .i .i64 txn, .i .i64 ts, .b gone, .s val]] [] _
  refine Ev.out ?_
  repeat' (first | ((with_reducible refine Ev.mk ?_); conv => whnf) | (with_reducible refine And.intro ?_ ?_) | (intro h))
  all_goals (try simp only [decide_eq_true_eq, decide_eq_false_iff_not, beq_iff_eq, bne_iff_ne, beq_eq_false_iff_ne, bne_eq_false_iff_eq, Int.toNat_natCast, ge_iff_le, gt_iff_lt, Bool.not_eq_true', Bool.not_eq_false', Int.not_lt, Int.not_le, ne_eq] at *)
  all_goals (try dsimp only [Ty.den, Ty.dflt, InT, sWhole, sMCheck, sRoute, sWide] at *)
  all_goals (try simp only [eq4, ne4, eq3, ne3, eq2, ne2, Prod.eta, List.length_cons, List.length_nil, List.length_append, Nat.zero_add] at *)
  all_goals (try simp (disch := omega) only [wrap64] at *)
  all_goals try first | exact leafDraw (by kernel_rfl) | exact Leaf.mk trivial | (refine Leaf.mk ?_; omega) | (refine Leaf.mk ?_; unfold maxLen; omega)
  rw [cp_all, cp_all]
  refine LoopVC.weak [(.cell 12 2, .nilx 46 MsgT)] (fun i : Nat => [(29, .i .i64 i)]) (fun i => [(15, .arx 46 MsgT ((bs.take i).map fun b => (true, b)))]) (fun i => i ≤ bs.length) (fun i => bs.length - i) 0 (Ev.mk ?_)
  (conv => whnf)
  refine ⟨Leaf.mk ?_, Leaf.mk ?_, ?_⟩
  · rfl
  · omega
  intro i hi
  repeat' (first | ((with_reducible refine Ev.mk ?_); conv => whnf) | (with_reducible refine And.intro ?_ ?_) | (intro h))
  all_goals (try simp only [decide_eq_true_eq, decide_eq_false_iff_not, beq_iff_eq, bne_iff_ne, beq_eq_false_iff_ne, bne_eq_false_iff_eq, Int.toNat_natCast, ge_iff_le, gt_iff_lt, Bool.not_eq_true', Bool.not_eq_false', Int.not_lt, Int.not_le, ne_eq] at *)
  all_goals (try dsimp only [Ty.den, Ty.dflt, InT, sWhole, sMCheck, sRoute, sWide] at *)
  all_goals (try simp only [eq4, ne4, eq3, ne3, eq2, ne2, Prod.eta, List.length_cons, List.length_nil, List.length_append, Nat.zero_add] at *)
  all_goals (try simp (disch := omega) only [wrap64] at *)
  all_goals try first | exact leafDraw (by kernel_rfl) | exact Leaf.mk trivial | (refine Leaf.mk ?_; omega) | (refine Leaf.mk ?_; unfold maxLen; omega)
  all_goals have htl : ((bs.take i).map fun b => (true, b)).length = i := by rw [List.length_map, List.length_take]; omega
  all_goals first
    | (refine Leaf.mk ?_; have := hbl i; omega)
    | (refine Leaf.mk ?_; omega)
    | (refine Leaf.mk ?_; unfold maxLen; omega)
    | (refine Leaf.mk ?_; rw [List.length_map, List.length_take]; omega)
    | (refine Leaf.mk ?_; rw [List.length_map, List.length_take]; unfold maxLen; omega)
    | (refine Leaf.mk (Exists.intro (i + 1) ⟨?_, by omega, by omega⟩)
       rw [cp_all, take_at [] (show i < bs.length by omega), List.map_append]; rfl)
    | skip
  all_goals
    obtain rfl : i = bs.length := by omega
    rw [List.take_length] at *
  · refine Leaf.mk (retIn (u := (ps, ks, snds (bs.map fun b => ((true, b) : Bool × List Msg)))) (v := addI (ps, ks, bs) (kind, key, txn, ts, gone, val)) ?_)
    rw [addI, if_neg (fun hc => by have h1 := hc.1; rw [show wholeI (ps, ks, bs) = false by assumption] at h1; cases h1)]
    rw [snds_true]
  · refine Leaf.mk (retIn (u := (ps, ks, snds (bs.map fun b => ((true, b) : Bool × List Msg)))) (v := addI (ps, ks, bs) (kind, key, txn, ts, gone, val)) ?_)
    rw [addI, if_neg (fun hc => by have h1 := hc.2; contradiction)]
    rw [snds_true]
  have hadd : addI (ps, ks, bs) (kind, key, txn, ts, gone, val) = (ps, ks, addB (aimI (ps, ks, bs) (kind, key, txn, ts, gone, val)) (kind, key, txn, ts, gone, val) bs) := by rw [addI, if_pos ⟨by assumption, by assumption⟩]
  have haim : ∀ j, aimI (ps, ks, bs) (kind, key, txn, ts, gone, val) j = (wide (kind, key, txn, ts, gone, val) || decide (j = routeI ps key)) := fun _ => rfl
  generalize aimI (ps, ks, bs) (kind, key, txn, ts, gone, val) = p at hadd haim
  rw [List.length_map]
  refine LoopVC.on (fun j : Nat => [(26, .i .i64 j)]) (fun j => [(5, .arx 46 MsgT (rowsX p (kind, key, txn, ts, gone, val) bs j))]) (fun j => j ≤ bs.length) (fun j => bs.length - j) 0 (by rw [rowsX_zero]; rfl) (by omega) ?_
  intro j hj
  have hlen := rowsX_len (p := p) (m := ((kind, key, txn, ts, gone, val) : Msg)) (bs := bs) (i := j)
  repeat' (first | ((with_reducible refine Ev.mk ?_); conv => whnf) | (with_reducible refine And.intro ?_ ?_) | (intro h))
  all_goals (try simp only [decide_eq_true_eq, decide_eq_false_iff_not, beq_iff_eq, bne_iff_ne, beq_eq_false_iff_ne, bne_eq_false_iff_eq, Int.toNat_natCast, ge_iff_le, gt_iff_lt, Bool.not_eq_true', Bool.not_eq_false', Int.not_lt, Int.not_le, ne_eq] at *)
  all_goals (try dsimp only [Ty.den, Ty.dflt, InT, sWhole, sMCheck, sRoute, sWide] at *)
  all_goals (try simp only [eq4, ne4, eq3, ne3, eq2, ne2, Prod.eta, List.length_cons, List.length_nil, List.length_append, Nat.zero_add] at *)
  all_goals (try simp (disch := omega) only [wrap64] at *)
  all_goals try first | exact leafDraw (by kernel_rfl) | exact Leaf.mk trivial | (refine Leaf.mk ?_; omega) | (refine Leaf.mk ?_; unfold maxLen; omega)
  all_goals try
    have hgd : (rowsX p ((kind, key, txn, ts, gone, val) : Msg) bs j).getD j (false, []) = (true, bs.getD j []) := by rw [List.getD_eq_getElem?_getD, rowsX_get (by omega)]; rfl
    have hbj := hbl j
    erw [hgd]
  all_goals first
    | exact Leaf.mk rfl
    | (refine Leaf.mk ?_; dsimp only; omega)
    | (refine Leaf.mk ?_; dsimp only; unfold maxLen; omega)
    | (refine Leaf.mk (Exists.intro (j + 1) ⟨?_, by omega, by omega⟩)
       have hpj : p j = true := by
         rw [haim, Bool.or_eq_true]
         first | exact .inl (by assumption) | exact .inr (decide_eq_true (by omega))
       rw [← rowsX_set hpj]; rfl)
    | (refine Leaf.mk (Exists.intro (j + 1) ⟨?_, by omega, by omega⟩)
       have hpj : p j = false := by
         rw [haim, Bool.or_eq_false_iff]
         exact ⟨by assumption, decide_eq_false (by omega)⟩
       rw [rowsX_no hpj]; rfl)
    | skip
  obtain rfl : j = bs.length := by omega
  refine Leaf.mk (retIn (u := (ps, ks, snds (rowsX p ((kind, key, txn, ts, gone, val) : Msg) bs bs.length))) (v := addI (ps, ks, bs) (kind, key, txn, ts, gone, val)) ?_)
  rw [hadd, snds, rowsX_end]
end Go.Proofs.YtoedpnniaikfbaaGreat

set_option linter.unusedVariables false
set_option linter.unusedSimpArgs false
set_option maxRecDepth 8000
set_option maxHeartbeats 4000000
namespace Go.Proofs.YtoedpnniaikfbaaGreat
open Go.Eng
theorem pOverlapsS : XOk Tryz.prog 78 xOverlaps := xOverlaps_ok tabOk Tryz.func78 (by kernel_rfl) (by kernel_rfl) (by kernel_rfl) (by kernel_rfl) (t := 22) rfl rfl (by rfl)
theorem pOverlapsI : XOk Tryz.prog 80 xOverlaps := xOverlaps_ok tabOk Tryz.func80 (by kernel_rfl) (by kernel_rfl) (by kernel_rfl) (by kernel_rfl) (t := 23) rfl rfl (by rfl)
theorem pOverlapsB : XOk Tryz.prog 82 xOverlaps := xOverlaps_ok tabOk Tryz.func82 (by kernel_rfl) (by kernel_rfl) (by kernel_rfl) (by kernel_rfl) (t := 24) rfl rfl (by rfl)
def sInsertS : OSpec := ⟨9, .str, [.d (.int .i64), .o 9 .str], fun xs y => 0 ≤ y.1 ∧ y.1 ≤ (xs.length : Int) ∧ xs.length + List.length y.2.1 ≤ 1000000, fun xs y => xs.take y.1.toNat ++ (y.2.1 ++ xs.drop y.1.toNat)⟩
theorem fInsertS : FnOk Tryz.prog 50 := ⟨_, Tryz.func50, by decide, rfl⟩
theorem pInsertS : SpecOk Tryz.prog 50 sInsertS.spec := by
  refine oOk (T := tab) (S := (spOf [(78, xOverlaps)])) (keep := k50) (by kernel_rfl) tabOk (spCons (.inr pOverlapsS) spNil) (by kernel_rfl) Tryz.func50 (by kernel_rfl) (by decide) (by decide) fun xs ys k hg hgt hmax hp => ?_
  obtain ⟨i, vs, ⟨⟩⟩ := ys
  change List (List UInt8) at xs
  change List (List UInt8) at vs
  change Int at i
  change 0 ≤ i ∧ i ≤ (xs.length : Int) ∧ xs.length + vs.length ≤ 1000000 at hp
  clear hg hgt
  obtain ⟨i, rfl⟩ := Int.eq_ofNat_of_zero_le hp.1
  show vfun tab _ k50 Tryz.f50 [.vw 0 .str 0 xs.length true, .i .i64 i, .own 1] [(0, .raw 9 .str (xs.map some ++ List.replicate k (none : Option (Ty.den .str)))), (1, .arr 9 .str vs)] _
  refine Ev.out ?_
  repeat' (first | ((with_reducible refine Ev.mk ?_); conv => whnf) | (with_reducible refine And.intro ?_ ?_) | (intro h))
  all_goals (try simp only [decide_eq_true_eq, decide_eq_false_iff_not, beq_iff_eq, bne_iff_ne, beq_eq_false_iff_ne, bne_eq_false_iff_eq, Int.toNat_natCast, ge_iff_le, gt_iff_lt, Bool.not_eq_true', Bool.not_eq_false', Int.not_lt, Int.not_le, ne_eq] at *)
  all_goals (try dsimp only [Ty.den, Ty.dflt, .str] at *)
  all_goals (try simp only [eq4, ne4, eq3, ne3, eq2, ne2, Prod.eta, List.length_cons, List.length_nil, List.length_append, Nat.zero_add] at *)
  all_goals (try simp (disch := omega) only [wrap64] at *)
  all_goals (try simp only [Int.sub_zero, Int.toNat_natCast, Int.toNat_sub, Int.toNat_zero, Nat.zero_add, toNat_add', toNat_addsub, toNat_subadd, List.length_map, List.length_append, List.length_replicate, List.length_take, List.length_drop] at *)
  all_goals first | omega | skip
  all_goals try first | exact leafDraw (by kernel_rfl) | exact Leaf.mk trivial | (refine Leaf.mk ?_; omega) | (refine Leaf.mk ?_; unfold maxLen; omega)
  all_goals first
    | (refine Leaf.mk ?_; unfold maxLen at *; omega)
    | skip
  · refine Leaf.mk (readO_vw.trans (congrArg some (?_ : _ = (xs.take i ++ (vs ++ xs.drop i)).map some)))
    obtain rfl : vs = [] := List.eq_nil_of_length_eq_zero (by omega)
    change ((xs.map some ++ List.replicate k none).take _) = _
    rw [raw_take (by omega)]
    simp
  · refine Leaf.mk (readO_vw.trans (congrArg some (?_ : _ = (xs.take i ++ (vs ++ xs.drop i)).map some)))
    obtain rfl : i = xs.length := by omega
    change (List.take (α := Option (List UInt8)) _ _) = _
    rw [raw_take (by omega), tk3 (by simp)]
    simp
  · refine Leaf.mk (readO_vw.trans (congrArg some (?_ : _ = (xs.take i ++ (vs ++ xs.drop i)).map some)))
    obtain rfl : i = xs.length := by omega
    change (List.take (α := Option (List UInt8)) _ _) = _
    rw [raw_take (by omega), tk3 (by simp)]
    simp
  · refine Leaf.mk (?_ : (List.take _ (List.drop _ (xs.map some ++ List.replicate k none))).all Option.isSome = true); rw [raw_cut (by omega)]; exact raw_all
  · exact Leaf.mk (readO_vw.trans (congrArg some (ins_new (by omega) (by omega) (by omega))))
  · refine Leaf.mk (?_ : (List.take _ (List.drop _ (xs.map some ++ List.replicate k none))).all Option.isSome = true); rw [raw_cut (by omega)]; exact raw_all
  · exact Leaf.mk (readO_vw.trans (congrArg some (ins_in (by omega) (by omega))))
def sInsertI : OSpec := ⟨3, (.int .i64), [.d (.int .i64), .o 3 (.int .i64)], fun xs y => 0 ≤ y.1 ∧ y.1 ≤ (xs.length : Int) ∧ xs.length + List.length y.2.1 ≤ 1000000, fun xs y => xs.take y.1.toNat ++ (y.2.1 ++ xs.drop y.1.toNat)⟩
theorem fInsertI : FnOk Tryz.prog 51 := ⟨_, Tryz.func51, by decide, rfl⟩
theorem pInsertI : SpecOk Tryz.prog 51 sInsertI.spec := by
  refine oOk (T := tab) (S := (spOf [(80, xOverlaps)])) (keep := k51) (by kernel_rfl) tabOk (spCons (.inr pOverlapsI) spNil) (by kernel_rfl) Tryz.func51 (by kernel_rfl) (by decide) (by decide) fun xs ys k hg hgt hmax hp => ?_
  obtain ⟨i, vs, ⟨⟩⟩ := ys
  change List Int at xs
  change List Int at vs
  change Int at i
  change 0 ≤ i ∧ i ≤ (xs.length : Int) ∧ xs.length + vs.length ≤ 1000000 at hp
  clear hg hgt
  obtain ⟨i, rfl⟩ := Int.eq_ofNat_of_zero_le hp.1
  show vfun tab _ k51 Tryz.f51 [.vw 0 (.int .i64) 0 xs.length true, .i .i64 i, .own 1] [(0, .raw 3 (.int .i64) (xs.map some ++ List.replicate k (none : Option (Ty.den (.int .i64))))), (1, .arr 3 (.int .i64) vs)] _
  refine Ev.out ?_
  repeat' (first | ((with_reducible refine Ev.mk ?_); conv => whnf) | (with_reducible refine And.intro ?_ ?_) | (intro h))
  all_goals (try simp only [decide_eq_true_eq, decide_eq_false_iff_not, beq_iff_eq, bne_iff_ne, beq_eq_false_iff_ne, bne_eq_false_iff_eq, Int.toNat_natCast, ge_iff_le, gt_iff_lt, Bool.not_eq_true', Bool.not_eq_false', Int.not_lt, Int.not_le, ne_eq] at *)
  all_goals (try dsimp only [Ty.den, Ty.dflt, (.int .i64)] at *)
  all_goals (try simp only [eq4, ne4, eq3, ne3, eq2, ne2, Prod.eta, List.length_cons, List.length_nil, List.length_append, Nat.zero_add] at *)
  all_goals (try simp (disch := omega) only [wrap64] at *)
  all_goals (try simp only [Int.sub_zero, Int.toNat_natCast, Int.toNat_sub, Int.toNat_zero, Nat.zero_add, toNat_add', toNat_addsub, toNat_subadd, List.length_map, List.length_append, List.length_replicate, List.length_take, List.length_drop] at *)
  all_goals first | omega | skip
  all_goals try first | exact leafDraw (by kernel_rfl) | exact Leaf.mk trivial | (refine Leaf.mk ?_; omega) | (refine Leaf.mk ?_; unfold maxLen; omega)
  all_goals first
    | (refine Leaf.mk ?_; unfold maxLen at *; omega)
    | skip
  · refine Leaf.mk (readO_vw.trans (congrArg some (?_ : _ = (xs.take i ++ (vs ++ xs.drop i)).map some)))
    obtain rfl : vs = [] := List.eq_nil_of_length_eq_zero (by omega)
    change ((xs.map some ++ List.replicate k none).take _) = _
    rw [raw_take (by omega)]
    simp
  · refine Leaf.mk (readO_vw.trans (congrArg some (?_ : _ = (xs.take i ++ (vs ++ xs.drop i)).map some)))
    obtain rfl : i = xs.length := by omega
    change (List.take (α := Option Int) _ _) = _
    rw [raw_take (by omega), tk3 (by simp)]
    simp
  · refine Leaf.mk (readO_vw.trans (congrArg some (?_ : _ = (xs.take i ++ (vs ++ xs.drop i)).map some)))
    obtain rfl : i = xs.length := by omega
    change (List.take (α := Option Int) _ _) = _
    rw [raw_take (by omega), tk3 (by simp)]
    simp
  · refine Leaf.mk (?_ : (List.take _ (List.drop _ (xs.map some ++ List.replicate k none))).all Option.isSome = true); rw [raw_cut (by omega)]; exact raw_all
  · exact Leaf.mk (readO_vw.trans (congrArg some (ins_new (by omega) (by omega) (by omega))))
  · refine Leaf.mk (?_ : (List.take _ (List.drop _ (xs.map some ++ List.replicate k none))).all Option.isSome = true); rw [raw_cut (by omega)]; exact raw_all
  · exact Leaf.mk (readO_vw.trans (congrArg some (ins_in (by omega) (by omega))))
def sInsertB : OSpec := ⟨46, (.slice MsgT), [.d (.int .i64), .o 46 (.slice MsgT)], fun xs y => 0 ≤ y.1 ∧ y.1 ≤ (xs.length : Int) ∧ xs.length + List.length y.2.1 ≤ 1000000, fun xs y => xs.take y.1.toNat ++ (y.2.1 ++ xs.drop y.1.toNat)⟩
theorem fInsertB : FnOk Tryz.prog 52 := ⟨_, Tryz.func52, by decide, rfl⟩
theorem pInsertB : SpecOk Tryz.prog 52 sInsertB.spec := by
  refine oOk (T := tab) (S := (spOf [(82, xOverlaps)])) (keep := k52) (by kernel_rfl) tabOk (spCons (.inr pOverlapsB) spNil) (by kernel_rfl) Tryz.func52 (by kernel_rfl) (by decide) (by decide) fun xs ys k hg hgt hmax hp => ?_
  obtain ⟨i, vs, ⟨⟩⟩ := ys
  change List (List Msg) at xs
  change List (List Msg) at vs
  change Int at i
  change 0 ≤ i ∧ i ≤ (xs.length : Int) ∧ xs.length + vs.length ≤ 1000000 at hp
  clear hg hgt
  obtain ⟨i, rfl⟩ := Int.eq_ofNat_of_zero_le hp.1
  show vfun tab _ k52 Tryz.f52 [.vw 0 (.slice MsgT) 0 xs.length true, .i .i64 i, .own 1] [(0, .raw 46 (.slice MsgT) (xs.map some ++ List.replicate k (none : Option (Ty.den (.slice MsgT))))), (1, .arr 46 (.slice MsgT) vs)] _
  refine Ev.out ?_
  repeat' (first | ((with_reducible refine Ev.mk ?_); conv => whnf) | (with_reducible refine And.intro ?_ ?_) | (intro h))
  all_goals (try simp only [decide_eq_true_eq, decide_eq_false_iff_not, beq_iff_eq, bne_iff_ne, beq_eq_false_iff_ne, bne_eq_false_iff_eq, Int.toNat_natCast, ge_iff_le, gt_iff_lt, Bool.not_eq_true', Bool.not_eq_false', Int.not_lt, Int.not_le, ne_eq] at *)
  all_goals (try dsimp only [Ty.den, Ty.dflt, (.slice MsgT)] at *)
  all_goals (try simp only [eq4, ne4, eq3, ne3, eq2, ne2, Prod.eta, List.length_cons, List.length_nil, List.length_append, Nat.zero_add] at *)
  all_goals (try simp (disch := omega) only [wrap64] at *)
  all_goals (try simp only [Int.sub_zero, Int.toNat_natCast, Int.toNat_sub, Int.toNat_zero, Nat.zero_add, toNat_add', toNat_addsub, toNat_subadd, List.length_map, List.length_append, List.length_replicate, List.length_take, List.length_drop] at *)
  all_goals first | omega | skip
  all_goals try first | exact leafDraw (by kernel_rfl) | exact Leaf.mk trivial | (refine Leaf.mk ?_; omega) | (refine Leaf.mk ?_; unfold maxLen; omega)
  all_goals first
    | (refine Leaf.mk ?_; unfold maxLen at *; omega)
    | skip
  · refine Leaf.mk (readO_vw.trans (congrArg some (?_ : _ = (xs.take i ++ (vs ++ xs.drop i)).map some)))
    obtain rfl : vs = [] := List.eq_nil_of_length_eq_zero (by omega)
    change ((xs.map some ++ List.replicate k none).take _) = _
    rw [raw_take (by omega)]
    simp
  · refine Leaf.mk (readO_vw.trans (congrArg some (?_ : _ = (xs.take i ++ (vs ++ xs.drop i)).map some)))
    obtain rfl : i = xs.length := by omega
    change (List.take (α := Option (List Msg)) _ _) = _
    rw [raw_take (by omega), tk3 (by simp)]
    simp
  · refine Leaf.mk (readO_vw.trans (congrArg some (?_ : _ = (xs.take i ++ (vs ++ xs.drop i)).map some)))
    obtain rfl : i = xs.length := by omega
    change (List.take (α := Option (List Msg)) _ _) = _
    rw [raw_take (by omega), tk3 (by simp)]
    simp
  · refine Leaf.mk (?_ : (List.take _ (List.drop _ (xs.map some ++ List.replicate k none))).all Option.isSome = true); rw [raw_cut (by omega)]; exact raw_all
  · exact Leaf.mk (readO_vw.trans (congrArg some (ins_new (by omega) (by omega) (by omega))))
  · refine Leaf.mk (?_ : (List.take _ (List.drop _ (xs.map some ++ List.replicate k none))).all Option.isSome = true); rw [raw_cut (by omega)]; exact raw_all
  · exact Leaf.mk (readO_vw.trans (congrArg some (ins_in (by omega) (by omega))))
def sIGrow : PSpec := ⟨[.d InT, .d (.int .i64), .d (.int .i64), .d .str], [⟨true, [.d InT]⟩], fun x => IPre x.1, fun x => ((growI x.1 x.2.1 x.2.2.1 x.2.2.2.1, ()), ())⟩
theorem fIGrow : FnOk Tryz.prog 18 := ⟨_, Tryz.func18, by decide, rfl⟩
theorem pIGrow : PSound Tryz.prog 18 sIGrow := by
  refine psound (T := tab) (S := (spOf [(45, sIOwn.spec (lsOf [])), (49, sHas.spec (lsOf [])), (50, sInsertS.spec), (51, sInsertI.spec), (52, sInsertB.spec)])) (keep := k18) (by kernel_rfl) tabOk (spCons (pOk pIOwn fIOwn (by decide) lsNil) (spCons (pOk pHas fHas (by decide) lsNil) (spCons (.inl ⟨pInsertS, fInsertS⟩) (spCons (.inl ⟨pInsertI, fInsertI⟩) (spCons (.inl ⟨pInsertB, fInsertB⟩) spNil))))) (by kernel_rfl) Tryz.func18 (by kernel_rfl) (by decide) fun xs hg hp => ?_
  obtain ⟨n, i, right, sep, ⟨⟩⟩ := xs
  obtain ⟨ps, ks, bs⟩ := n
  clear hg
  change List (List UInt8) at ps
  change List Int at ks
  change List (List Msg) at bs
  change Int at i right
  change List UInt8 at sep
  change IPre (ps, ks, bs) at hp
  have hpp := hp.p
  have hpk := hp.k
  have hpb := hp.b
  dsimp only at hpp hpk hpb
  show vfun tab _ k18 Tryz.f18 [.agg [.sl .str ps, .sl (.int .i64) ks, .sl (.slice MsgT) bs], .i .i64 i, .i .i64 right, .s sep] [] _
  refine Ev.out ?_
  repeat' (first | ((with_reducible refine Ev.mk ?_); conv => whnf) | (with_reducible refine And.intro ?_ ?_) | (intro h))
  all_goals (try simp only [decide_eq_true_eq, decide_eq_false_iff_not, beq_iff_eq, bne_iff_ne, beq_eq_false_iff_ne, bne_eq_false_iff_eq, Int.toNat_natCast, ge_iff_le, gt_iff_lt, Bool.not_eq_true', Bool.not_eq_false', Int.not_lt, Int.not_le, ne_eq] at *)
  all_goals (try dsimp only [Ty.den, Ty.dflt, InT, sIOwn, sHas] at *)
  all_goals (try simp only [eq4, ne4, eq3, ne3, eq2, ne2, Prod.eta, List.length_cons, List.length_nil, List.length_append, Nat.zero_add] at *)
  all_goals (try simp (disch := omega) only [wrap64] at *)
  all_goals try first | exact leafDraw (by kernel_rfl) | exact Leaf.mk trivial | (refine Leaf.mk ?_; omega) | (refine Leaf.mk ?_; unfold maxLen; omega)
  · refine Leaf.mk (retIn (u := (ps, ks, bs)) (v := growI (ps, ks, bs) i right sep) ?_)
    rw [growI, if_neg (not_of_false (show hasI (ps, ks, bs) i = false by assumption))]
  all_goals
    obtain ⟨hw, hi0, hi1⟩ := hasI_iff.1 (show hasI (ps, ks, bs) i = true from ‹_›)
    obtain ⟨w1, w2⟩ := wholeI_iff.1 hw
    dsimp only at hi1 w1 w2
    have ew : IntKind.i64.wrap (i + 1) = i + 1 := wrap64 (by omega)
  · exact Leaf.mk (show 0 ≤ i ∧ i ≤ (ps.length : Int) ∧ ps.length + 1 ≤ 1000000 by omega)
  · rw [ew]; exact Leaf.mk (show 0 ≤ i + 1 ∧ i + 1 ≤ (ks.length : Int) ∧ ks.length + 1 ≤ 1000000 by omega)
  · rw [ew]; exact Leaf.mk (show 0 ≤ i + 1 ∧ i + 1 ≤ (bs.length : Int) ∧ bs.length + 1 ≤ 1000000 by omega)
  · rw [ew]
    refine Leaf.mk (retIn (u := (insK i.toNat sep ps, insK (i + 1).toNat right ks, insK (i + 1).toNat [] bs)) (v := growI (ps, ks, bs) i right sep) ?_)
    rw [growI, if_pos (show hasI (ps, ks, bs) i = true by assumption), show (i + 1).toNat = i.toNat + 1 by omega]
end Go.Proofs.YtoedpnniaikfbaaGreat

set_option linter.unusedVariables false
set_option linter.unusedSimpArgs false
set_option maxRecDepth 8000
set_option maxHeartbeats 4000000
namespace Go.Proofs.YtoedpnniaikfbaaGreat
open Go.Eng
def sHasPrefix : PSpec := ⟨[.d BT, .d BT], [⟨false, [.d .bool]⟩], fun _ => True, fun x => ((hasPre x.1 x.2.1, ()), ())⟩
theorem fHasPrefix : FnOk Tryz.prog 74 := ⟨_, Tryz.func74, by decide, rfl⟩
theorem pHasPrefix : PSound Tryz.prog 74 sHasPrefix := by
  refine psound (T := tab) (S := (spOf [(35, sBEqual.spec (lsOf []))])) (keep := k74) (by kernel_rfl) tabOk (spCons (pOk pBEqual fBEqual (by decide) lsNil) spNil) (by kernel_rfl) Tryz.func74 (by kernel_rfl) (by decide) fun xs hg hp => ?_
  obtain ⟨b, c, ⟨⟩⟩ := xs
  change List Int at b c
  show vfun tab _ k74 Tryz.f74 [.sl (.int .u8) b, .sl (.int .u8) c] [] _
  refine Ev.out ?_
  repeat' (first | ((with_reducible refine Ev.mk ?_); conv => whnf) | (with_reducible refine And.intro ?_ ?_) | (intro h))
  all_goals (try simp only [decide_eq_true_eq, decide_eq_false_iff_not, beq_iff_eq, bne_iff_ne, beq_eq_false_iff_ne, bne_eq_false_iff_eq, Int.toNat_natCast, ge_iff_le, gt_iff_lt, Bool.not_eq_true', Bool.not_eq_false', Int.not_lt, Int.not_le, ne_eq] at *)
  all_goals (try dsimp only [Ty.den, Ty.dflt, MsgT, sBEqual] at *)
  all_goals (try simp only [eq4, ne4, eq3, ne3, eq2, ne2, Prod.eta, List.length_cons, List.length_nil, List.length_append, Nat.zero_add] at *)
  all_goals (try simp (disch := omega) only [wrap64] at *)
  all_goals try first | exact leafDraw (by kernel_rfl) | exact Leaf.mk trivial | (refine Leaf.mk ?_; omega) | (refine Leaf.mk ?_; unfold maxLen; omega)
  · refine Leaf.mk (ret1 (show _ = hasPre b c from ?_))
    rw [hasPre, decide_eq_true (by omega), Bool.true_and, Int.toNat_zero, List.drop_zero]
  · refine Leaf.mk (ret1 (show _ = hasPre b c from ?_))
    rw [hasPre, decide_eq_false (by omega), Bool.false_and]
def sMGet : PSpec := ⟨[.d BT], [⟨true, [.d MsgT]⟩, ⟨false, [.d (.int .i64)]⟩, ⟨false, [.d (.int .i64)]⟩], fun x => List.length (α := Int) x.1 ≤ 100000, fun x => (((getM x.1).1, ()), ((getM x.1).2.1, ()), ((getM x.1).2.2, ()), ())⟩
def sMGetR : PSpec := sMGet
theorem retM {u v : Msg × Int × Int} (h : u = v) : (some ((u.1, ()), (u.2.1, ()), (u.2.2, ()), ()) : Option ((Msg × Unit) × (Int × Unit) × (Int × Unit) × Unit)) = some ((v.1, ()), (v.2.1, ()), (v.2.2, ()), ()) := by rw [h]
theorem suf_cutk (k : Int) {X r : List Int} (h : X <:+ r) : (k :: r).drop (((r.length + 1 : Nat) : Int) - ((X.length : Nat) : Int)).toNat = X := by
  obtain ⟨t, rfl⟩ := h
  rw [show (((t ++ X).length + 1 : Nat) : Int) - ((X.length : Nat) : Int) = ((t.length + 1 : Nat) : Int) by rw [List.length_append]; omega, Int.toNat_natCast, List.drop_succ_cons, List.drop_left]
theorem cut_all {α : Type} (l : List α) : l.take l.length = l := List.take_length
theorem fMGetR : FnOk Tryz.prog 38 := ⟨_, Tryz.func38, by decide, rfl⟩
theorem pMGetR : PSound Tryz.prog 38 sMGetR := by
  refine psound (T := tab) (S := (spOf [(37, sRText.spec (lsOf [])), (36, sRSmall.spec (lsOf [])), (68, sMPutR.spec (lsOf []))])) (keep := k38) (by kernel_rfl) tabOk (spCons (pOk pRText fRText (by decide) lsNil) (spCons (pOk pRSmall fRSmall (by decide) lsNil) (spCons (pOk pMPutR fMPutR (by decide) lsNil) spNil))) (by kernel_rfl) Tryz.func38 (by kernel_rfl) (by decide) fun xs hg hp => ?_
  obtain ⟨b, ⟨⟩⟩ := xs
  obtain ⟨⟨-, hx⟩, -⟩ := hg
  change List Int at b
  change b.length ≤ 100000 at hp
  have hB : isB b := isB_good hx
  clear hx
  cases b with
  | nil =>
  show vfun tab _ k38 Tryz.f38 [.sl (.int .u8) []] [] _
  refine Ev.out ?_
  repeat' (first | ((with_reducible refine Ev.mk ?_); conv => whnf) | (with_reducible refine And.intro ?_ ?_) | (intro h))
  all_goals try first | exact leafDraw (by kernel_rfl) | exact Leaf.mk trivial | (refine Leaf.mk ?_; omega) | (refine Leaf.mk ?_; unfold maxLen; omega)
  all_goals first
    | exact Leaf.mk (retM (u := (msg0, 0, 4)) (v := getM []) rfl)
    | exact absurd ‹((([] : List Int).length : Int) == 0) = false› (by decide)
  | cons k r =>
  show vfun tab _ k38 Tryz.f38 [.sl (.int .u8) (k :: r)] [] _
  refine Ev.out ?_
  repeat' (first | ((with_reducible refine Ev.mk ?_); conv => whnf) | (with_reducible refine And.intro ?_ ?_) | (intro h; (try simp only [beq_iff_eq, bne_iff_ne, beq_eq_false_iff_ne, bne_eq_false_iff_eq, decide_eq_true_eq, decide_eq_false_iff_not, ne_eq, Int.not_lt, Int.not_le, Bool.not_eq_true', Bool.not_eq_false'] at h); try (exfalso; omega)))
  all_goals try exact leafDraw (by kernel_rfl)
  all_goals try simp only [List.getD_cons_zero, Int.toNat_zero, show Int.toNat 1 = 1 from rfl, Int.toNat_natCast, cut_all, List.drop_succ_cons, List.drop_zero] at *
  all_goals try exact Leaf.mk trivial
  all_goals (try simp only [decide_eq_true_eq, decide_eq_false_iff_not, beq_iff_eq, bne_iff_ne, beq_eq_false_iff_ne, bne_eq_false_iff_eq, Int.toNat_natCast, ge_iff_le, gt_iff_lt, Bool.not_eq_true', Bool.not_eq_false', Int.not_lt, Int.not_le, ne_eq] at *)
  all_goals (try dsimp only [Ty.den, Ty.dflt, MsgT, sRText, sRSmall, sMPutR, sMPut] at *)
  all_goals (try simp only [eq4, ne4, eq3, ne3, eq2, ne2, Prod.eta, List.length_cons, List.length_nil, List.length_append, Nat.zero_add] at *)
  all_goals (try simp (disch := omega) only [wrap64] at *)
  all_goals try first | exact leafDraw (by kernel_rfl) | exact Leaf.mk trivial | (refine Leaf.mk ?_; omega) | (refine Leaf.mk ?_; unfold maxLen; omega)
  all_goals
    have hk0 : 0 ≤ k := (hB k List.mem_cons_self).1
    have hrl : r.length + 1 ≤ 100000 := hp
    have hs1 := suf_len (rdText_suf r 0 16)
    have hs2 := suf_len (rdSmall_suf (rdText r 0 16).2.1 (rdText r 0 16).2.2)
  all_goals
    have hs3 := suf_len (rdSmall_suf r 0)
    have hs4 := suf_len (rdSmall_suf (rdSmall r 0).2.1 (rdSmall r 0).2.2)
    have hcut := suf_cutk k ((rdSmall_suf (rdText r 0 16).2.1 (rdText r 0 16).2.2).trans (rdText_suf r 0 16))
  all_goals try rw [wrap64 (by omega)] at *
  all_goals try simp only [hcut] at *
  all_goals try (refine Leaf.mk ?_; first | omega | (rw [List.length_drop]; omega))
  all_goals first
    | refine Leaf.mk (retM (u := (msg0, 0, 4)) (v := getM (k :: r)) ((fin_of hB ?_ ?_).bad ‹¬ (putR12 _).2 = 0›))
    | refine Leaf.mk (retM (u := (msg0, 0, 4)) (v := getM (k :: r)) ((fin_of hB ?_ ?_).nol ‹(putR12 _).2 = 0› ‹_ < _›))
    | refine Leaf.mk (retM (u := (msg0, 0, 4)) (v := getM (k :: r)) ((fin_of hB ?_ ?_).nos ‹(putR12 _).2 = 0› ‹¬ strOfBytes _ = _›))
    | refine Leaf.mk (retM (u := (msg0, 0, 4)) (v := getM (k :: r)) ((fin_of hB ?_ ?_).nop ‹(putR12 _).2 = 0› ‹hasPre _ _ = false›))
    | refine Leaf.mk (retM (u := (_, _, 0)) (v := getM (k :: r)) ((fin_of hB ?_ ?_).yess ‹(putR12 _).2 = 0› ‹strOfBytes _ = _›))
    | refine Leaf.mk (retM (u := (_, _, 0)) (v := getM (k :: r)) ((fin_of hB ?_ ?_).yesp ‹(putR12 _).2 = 0› ‹hasPre _ _ = true›))
  all_goals try exact rfl
  all_goals
    intro x s hx ok q
    have hts := q.ts
    have hk3 := ok.kind
    rw [hx] at hts hk3
  all_goals first
    | (exfalso; omega)
    | (have hkk : k = 0 := by omega
       subst hkk)
    | (have hkk : k = 1 := by omega
       subst hkk)
    | (have hkk : k = 2 := by omega
       subst hkk)
    | (have hkk : k = 3 := by omega
       subst hkk)
  all_goals
    simp only [rdTs, rdTxn, rdKey, readM, if_true, if_false, Int.reduceEq, true_or, or_true, false_or, or_false, true_and, false_and] at hts ⊢
  all_goals try exact rfl
  all_goals try (rw [if_pos (by omega)]; done)
  all_goals try (rw [if_neg (by omega)]; done)
  all_goals try (rw [if_pos (by omega)]; simp_all; done)
  all_goals try (exfalso; exact absurd (congrArg (fun p : Int × List Int × Int => p.2.2) hts) ‹¬ (rdSmall _ _).2.2 = 0›)
end Go.Proofs.YtoedpnniaikfbaaGreat

set_option linter.unusedVariables false
set_option linter.unusedSimpArgs false
set_option maxRecDepth 8000
set_option maxHeartbeats 4000000
namespace Go.Proofs.YtoedpnniaikfbaaGreat
open Go.Eng
theorem fMGet : FnOk Tryz.prog 34 := ⟨_, Tryz.func34, by decide, rfl⟩
theorem pMGet : PSound Tryz.prog 34 sMGet := by
  refine psound (T := tab) (S := (spOf [(73, sOf.spec (lsOf [])), (30, sNew.spec (lsOf [])), (32, sText.spec), (31, sSmall.spec), (33, sLeft.spec), (61, sMPut.spec (lsOf [])), (74, sHasPrefix.spec (lsOf []))])) (keep := k34) (by kernel_rfl) tabOk (spCons (pOk pOf fOf (by decide) lsNil) (spCons (.inl ⟨nOk lsNil pNew, fNew⟩) (spCons (.inl ⟨pText, fText⟩) (spCons (.inl ⟨pSmall, fSmall⟩) (spCons (.inl ⟨pLeft, fLeft⟩) (spCons (pOk pMPut fMPut (by decide) lsNil) (spCons (pOk pHasPrefix fHasPrefix (by decide) lsNil) spNil))))))) (by kernel_rfl) Tryz.func34 (by kernel_rfl) (by decide) fun xs hg hp => ?_
  obtain ⟨b, ⟨⟩⟩ := xs
  obtain ⟨⟨-, hx⟩, -⟩ := hg
  change List Int at b
  change b.length ≤ 100000 at hp
  have hB : isB b := isB_good hx
  clear hx
  cases b with
  | nil =>
  show vfun tab _ k34 Tryz.f34 [.sl (.int .u8) []] [] _
  refine Ev.out ?_
  repeat' (first | ((with_reducible refine Ev.mk ?_); conv => whnf) | (with_reducible refine And.intro ?_ ?_) | (intro h))
  all_goals try first | exact leafDraw (by kernel_rfl) | exact Leaf.mk trivial | (refine Leaf.mk ?_; omega) | (refine Leaf.mk ?_; unfold maxLen; omega)
  all_goals first
    | exact Leaf.mk (retM (u := (msg0, 0, 4)) (v := getM []) rfl)
    | exact absurd ‹((([] : List Int).length : Int) == 0) = false› (by decide)
  | cons k r =>
  show vfun tab _ k34 Tryz.f34 [.sl (.int .u8) (k :: r)] [] _
  refine Ev.out ?_
  repeat' (first | ((with_reducible refine Ev.mk ?_); conv => whnf) | (with_reducible refine And.intro ?_ ?_) | (intro h; (try dsimp only [sOf, ofK] at h); (try simp only [beq_iff_eq, bne_iff_ne, beq_eq_false_iff_ne, bne_eq_false_iff_eq, decide_eq_true_eq, decide_eq_false_iff_not, ne_eq, Int.not_lt, Int.not_le, Bool.not_eq_true', Bool.not_eq_false'] at h); try (exfalso; omega)))
  all_goals try exact leafDraw (by kernel_rfl)
  all_goals try simp only [List.getD_cons_zero, Int.toNat_zero, show Int.toNat 1 = 1 from rfl, Int.toNat_natCast, cut_all, List.drop_succ_cons, List.drop_zero] at *
  all_goals try exact Leaf.mk trivial
  all_goals (try simp only [decide_eq_true_eq, decide_eq_false_iff_not, beq_iff_eq, bne_iff_ne, beq_eq_false_iff_ne, bne_eq_false_iff_eq, Int.toNat_natCast, ge_iff_le, gt_iff_lt, Bool.not_eq_true', Bool.not_eq_false', Int.not_lt, Int.not_le, ne_eq] at *)
  all_goals (try dsimp only [Ty.den, Ty.dflt, MsgT, sNew, sText, sSmall, sLeft, sMPut, sHasPrefix] at *)
  all_goals (try simp only [eq4, ne4, eq3, ne3, eq2, ne2, Prod.eta, List.length_cons, List.length_nil, List.length_append, Nat.zero_add] at *)
  all_goals (try simp (disch := omega) only [wrap64] at *)
  all_goals try first | exact leafDraw (by kernel_rfl) | exact Leaf.mk trivial | (refine Leaf.mk ?_; omega) | (refine Leaf.mk ?_; unfold maxLen; omega)
  all_goals
    have hk0 : 0 ≤ k := (hB k List.mem_cons_self).1
    have hrl : r.length + 1 ≤ 100000 := hp
    have hs1 := suf_len (rdText_suf r 0 16)
    have hs2 := suf_len (rdSmall_suf (rdText r 0 16).2.1 (rdText r 0 16).2.2)
  all_goals
    have hs3 := suf_len (rdSmall_suf r 0)
    have hs4 := suf_len (rdSmall_suf (rdSmall r 0).2.1 (rdSmall r 0).2.2)
    have hcut := suf_cutk k ((rdSmall_suf (rdText r 0 16).2.1 (rdText r 0 16).2.2).trans (rdText_suf r 0 16))
  all_goals try rw [wrap64 (by omega)] at *
  all_goals try simp only [hcut] at *
  all_goals try (refine Leaf.mk ?_; first | omega | (rw [List.length_drop]; omega))
  all_goals first
    | refine Leaf.mk (retM (u := (msg0, 0, 4)) (v := getM (k :: r)) ((fin_of hB ?_ ?_).bad ‹¬ (putR12 _).2 = 0›))
    | refine Leaf.mk (retM (u := (msg0, 0, 4)) (v := getM (k :: r)) ((fin_of hB ?_ ?_).nol ‹(putR12 _).2 = 0› ‹_ < _›))
    | refine Leaf.mk (retM (u := (msg0, 0, 4)) (v := getM (k :: r)) ((fin_of hB ?_ ?_).nos ‹(putR12 _).2 = 0› ‹¬ strOfBytes _ = _›))
    | refine Leaf.mk (retM (u := (msg0, 0, 4)) (v := getM (k :: r)) ((fin_of hB ?_ ?_).nop ‹(putR12 _).2 = 0› ‹hasPre _ _ = false›))
    | refine Leaf.mk (retM (u := (_, _, 0)) (v := getM (k :: r)) ((fin_of hB ?_ ?_).yess ‹(putR12 _).2 = 0› ‹strOfBytes _ = _›))
    | refine Leaf.mk (retM (u := (_, _, 0)) (v := getM (k :: r)) ((fin_of hB ?_ ?_).yesp ‹(putR12 _).2 = 0› ‹hasPre _ _ = true›))
  all_goals try exact rfl
  all_goals
    intro x s hx ok q
    have hts := q.ts
    have hk3 := ok.kind
    rw [hx] at hts hk3
  all_goals first
    | (exfalso; omega)
    | (have hkk : k = 0 := by omega
       subst hkk)
    | (have hkk : k = 1 := by omega
       subst hkk)
    | (have hkk : k = 2 := by omega
       subst hkk)
    | (have hkk : k = 3 := by omega
       subst hkk)
  all_goals
    simp only [rdTs, rdTxn, rdKey, readM, if_true, if_false, Int.reduceEq, true_or, or_true, false_or, or_false, true_and, false_and] at hts ⊢
  all_goals try exact rfl
  all_goals try (rw [if_pos (by omega)]; done)
  all_goals try (rw [if_neg (by omega)]; done)
  all_goals try (rw [if_pos (by omega)]; simp_all; done)
  all_goals try (exfalso; exact absurd (congrArg (fun p : Int × List Int × Int => p.2.2) hts) ‹¬ (rdSmall _ _).2.2 = 0›)
end Go.Proofs.YtoedpnniaikfbaaGreat
