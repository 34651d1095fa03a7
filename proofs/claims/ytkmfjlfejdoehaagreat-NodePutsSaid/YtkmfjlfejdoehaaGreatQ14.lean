import Derived.Test.YtkmfjlfejdoehaaGreatQ13
/- Texts, one behind the other. -/
set_option linter.unusedVariables false
set_option linter.unusedSimpArgs false
set_option maxRecDepth 8000
set_option maxHeartbeats 4000000
namespace Go.Proofs.YtkmfjlfejdoehaaGreat
open Go.Eng
def kidsN (n : Nod) : List Int := if n.1 = 0 then [] else n.2.2.2.1
def sCloneI : PSpec := ⟨[.d (.slice I64T)], [⟨false, [.o 3 I64T]⟩], fun x => x.1.length ≤ 1000000, fun x => ((x.1, ()), ())⟩
theorem fCloneI : FnOk Tryz.prog 171 := ⟨_, Tryz.func171, by decide, rfl⟩
theorem pCloneI : PSound Tryz.prog 171 sCloneI := by
  refine psound (T := tab) (S := (spOf [])) (keep := k171) (by kernel_rfl) tabOk spNil (by kernel_rfl) Tryz.func171 (by kernel_rfl) (by decide) fun xs hg hp => ?_
  obtain ⟨xs, ⟨⟩⟩ := xs
  obtain ⟨⟨hl, -⟩, -⟩ := hg
  change List Int at xs
  clear hl
  change xs.length ≤ 1000000 at hp
  show vfun tab _ k171 Tryz.f171 [.sl I64T xs] [] _
  refine Ev.out ?_
  repeat' (first | ((with_reducible refine Ev.mk ?_); conv => whnf) | (with_reducible refine And.intro ?_ ?_) | (intro h))
  all_goals (try simp only [decide_eq_true_eq, decide_eq_false_iff_not, beq_iff_eq, bne_iff_ne, beq_eq_false_iff_ne, bne_eq_false_iff_eq, Int.toNat_natCast, ge_iff_le, gt_iff_lt, Bool.not_eq_true', Bool.not_eq_false', Int.not_lt, Int.not_le, ne_eq] at *)
  all_goals (try dsimp only [Ty.den, Ty.dflt, I64T] at *)
  all_goals (try simp only [eq4, ne4, eq3, ne3, eq2, ne2, Prod.eta, List.length_cons, List.length_nil, List.length_append, Nat.zero_add] at *)
  all_goals (try simp (disch := omega) only [wrap64] at *)
  all_goals try first | exact leafDraw (by kernel_rfl) | exact Leaf.mk trivial | (refine Leaf.mk ?_; omega) | (refine Leaf.mk ?_; unfold maxLen; omega)
  all_goals first
    | (refine Leaf.mk (ret1 (show ([] : List Int) = xs from ?_)); exact (List.eq_nil_of_length_eq_zero (by omega)).symm)
    | exact Leaf.mk (ret1 rfl)
    | skip
def sNKids : PSpec := ⟨[.d NdT], [⟨false, [.d (.slice (.int .i64))]⟩], fun x => NPre x.1, fun x => ((kidsN x.1, ()), ())⟩
theorem fNKids : FnOk Tryz.prog 112 := ⟨_, Tryz.func112, by decide, rfl⟩
theorem pNKids : PSound Tryz.prog 112 sNKids := by
  refine psound (T := tab) (S := (spOf [(171, sCloneI.spec (lsOf []))])) (keep := k112) (by kernel_rfl) tabOk (spCons (pOk pCloneI fCloneI (by decide) lsNil) spNil) (by kernel_rfl) Tryz.func112 (by kernel_rfl) (by decide) fun xs hg hp => ?_
  obtain ⟨⟨d, l, ps, ks, bs⟩, ⟨⟩⟩ := xs
  clear hg
  change Int at d
  change List Stk at l
  change List (List UInt8) at ps
  change List Int at ks
  change List (List Msg) at bs
  change NPre (d, l, ps, ks, bs) at hp
  have hpl := hp.l
  have hpi := hp.i
  have hpp := hpi.p
  have hpk := hpi.k
  have hpb := hpi.b
  dsimp only at hpl hpi hpp hpk hpb
  show vfun tab _ k112 Tryz.f112 [.agg [.i .i64 d, .sl StT l, .sl .str ps, .sl (.int .i64) ks, .sl (.slice MsgT) bs]] [] _
  refine Ev.out ?_
  repeat' (first | ((with_reducible refine Ev.mk ?_); conv => whnf) | (with_reducible refine And.intro ?_ ?_) | (intro h))
  all_goals (try simp only [decide_eq_true_eq, decide_eq_false_iff_not, beq_iff_eq, bne_iff_ne, beq_eq_false_iff_ne, bne_eq_false_iff_eq, Int.toNat_natCast, ge_iff_le, gt_iff_lt, Bool.not_eq_true', Bool.not_eq_false', Int.not_lt, Int.not_le, ne_eq] at *)
  all_goals (try dsimp only [Ty.den, Ty.dflt, NdT, SsT, InT] at *)
  all_goals (try simp only [eq4, ne4, eq3, ne3, eq2, ne2, Prod.eta, List.length_cons, List.length_nil, List.length_append, Nat.zero_add] at *)
  all_goals (try simp (disch := omega) only [wrap64] at *)
  all_goals try first | exact leafDraw (by kernel_rfl) | exact Leaf.mk trivial | (refine Leaf.mk ?_; omega) | (refine Leaf.mk ?_; unfold maxLen; omega)
  all_goals first
    | exact Leaf.mk (show ks.length ≤ 1000000 by omega)
    | (refine Leaf.mk (ret1 (show ([] : List Int) = kidsN (d, l, ps, ks, bs) from ?_)); rw [kidsN, if_pos h])
    | (refine Leaf.mk (ret1 (show ks = kidsN (d, l, ps, ks, bs) from ?_)); rw [kidsN, if_neg h])
    | skip
def firstN (n : Nod) : List UInt8 × Bool := if n.1 = 0 then (if 0 < n.2.1.length then ((n.2.1.getD 0 stk0).1, true) else ([], false)) else (if 0 < n.2.2.1.length then (n.2.2.1.getD 0 [], true) else ([], false))
theorem retFn {u v : List UInt8 × Bool} (h : u = v) : (some ((u.1, ()), (u.2, ()), ()) : Option ((List UInt8 × Unit) × (Bool × Unit) × Unit)) = some ((v.1, ()), (v.2, ()), ()) := by rw [h]
def sNFirst : PSpec := ⟨[.d NdT], [⟨false, [.d .str]⟩, ⟨false, [.d .bool]⟩], fun x => NPre x.1, fun x => (((firstN x.1).1, ()), ((firstN x.1).2, ()), ())⟩
theorem fNFirst : FnOk Tryz.prog 113 := ⟨_, Tryz.func113, by decide, rfl⟩
theorem pNFirst : PSound Tryz.prog 113 sNFirst := by
  refine psound (T := tab) (S := (spOf [])) (keep := k113) (by kernel_rfl) tabOk spNil (by kernel_rfl) Tryz.func113 (by kernel_rfl) (by decide) fun xs hg hp => ?_
  obtain ⟨⟨d, l, ps, ks, bs⟩, ⟨⟩⟩ := xs
  clear hg
  change Int at d
  change List Stk at l
  change List (List UInt8) at ps
  change List Int at ks
  change List (List Msg) at bs
  change NPre (d, l, ps, ks, bs) at hp
  have hpl := hp.l
  have hpi := hp.i
  have hpp := hpi.p
  have hpk := hpi.k
  have hpb := hpi.b
  dsimp only at hpl hpi hpp hpk hpb
  show vfun tab _ k113 Tryz.f113 [.agg [.i .i64 d, .sl StT l, .sl .str ps, .sl (.int .i64) ks, .sl (.slice MsgT) bs]] [] _
  refine Ev.out ?_
  repeat' (first | ((with_reducible refine Ev.mk ?_); conv => whnf) | (with_reducible refine And.intro ?_ ?_) | (intro h))
  all_goals (try simp only [decide_eq_true_eq, decide_eq_false_iff_not, beq_iff_eq, bne_iff_ne, beq_eq_false_iff_ne, bne_eq_false_iff_eq, Int.toNat_natCast, ge_iff_le, gt_iff_lt, Bool.not_eq_true', Bool.not_eq_false', Int.not_lt, Int.not_le, ne_eq] at *)
  all_goals (try dsimp only [Ty.den, Ty.dflt, NdT, SsT, InT] at *)
  all_goals (try simp only [eq4, ne4, eq3, ne3, eq2, ne2, Prod.eta, List.length_cons, List.length_nil, List.length_append, Nat.zero_add] at *)
  all_goals (try simp (disch := omega) only [wrap64] at *)
  all_goals try first | exact leafDraw (by kernel_rfl) | exact Leaf.mk trivial | (refine Leaf.mk ?_; omega) | (refine Leaf.mk ?_; unfold maxLen; omega)
  all_goals first
    | (refine Leaf.mk (retFn (u := ((l.getD 0 stk0).1, true)) (v := firstN (d, l, ps, ks, bs)) ?_); rw [firstN, if_pos (show d = 0 by omega), if_pos (show 0 < l.length by omega)]; done)
    | (refine Leaf.mk (retFn (u := (ps.getD 0 [], true)) (v := firstN (d, l, ps, ks, bs)) ?_); rw [firstN, if_neg (show ¬ d = 0 by omega), if_pos (show 0 < ps.length by omega)]; done)
    | (refine Leaf.mk (retFn (u := ([], false)) (v := firstN (d, l, ps, ks, bs)) ?_); rw [firstN, if_pos (show d = 0 by omega), if_neg (show ¬ 0 < l.length by omega)]; done)
    | (refine Leaf.mk (retFn (u := ([], false)) (v := firstN (d, l, ps, ks, bs)) ?_); rw [firstN, if_neg (show ¬ d = 0 by omega), if_neg (show ¬ 0 < ps.length by omega)]; done)
    | skip
def sameN (a b : Nod) : Bool := decide (a.1 = b.1 ∧ a.2.1 = b.2.1 ∧ a.2.2 = b.2.2)
theorem sameN_iff {a b : Nod} : sameN a b = true ↔ a = b := by
  rw [sameN, decide_eq_true_iff]
  obtain ⟨x, y, z⟩ := a; obtain ⟨u, v, w⟩ := b
  constructor
  · rintro ⟨h1, h2, h3⟩; dsimp only at h1 h2 h3; rw [h1, h2, h3]
  · intro h; cases h; exact ⟨rfl, rfl, rfl⟩
def sNSame : PSpec := ⟨[.d NdT, .d NdT], [⟨false, [.d .bool]⟩], fun x => NPre x.1, fun x => ((sameN x.1 x.2.1, ()), ())⟩
def sNSameR : PSpec := sNSame
theorem sameN_no {a b : Nod} (h : ¬ a = b) : false = sameN a b := by
  cases e : sameN a b
  · rfl
  · exact absurd (sameN_iff.1 e) h
theorem sameN_i {a b : Nod} (h1 : a.1 = b.1) (h2 : a.2.1 = b.2.1) : sameI a.2.2 b.2.2 = sameN a b := by
  apply Bool.eq_iff_iff.2
  rw [sameI, sameN, decide_eq_true_iff, decide_eq_true_iff]
  exact ⟨fun h => ⟨h1, h2, h⟩, fun h => h.2.2⟩
theorem fNSame : FnOk Tryz.prog 114 := ⟨_, Tryz.func114, by decide, rfl⟩
theorem pNSame : PSound Tryz.prog 114 sNSame := by
  refine psound (T := tab) (S := (spOf [(28, sLSame.spec (lsOf [])), (172, sISame.spec (lsOf []))])) (keep := k114) (by kernel_rfl) tabOk (spCons (pOk pLSame fLSame (by decide) lsNil) (spCons (pOk pISame fISame (by decide) lsNil) spNil)) (by kernel_rfl) Tryz.func114 (by kernel_rfl) (by decide) fun xs hg hp => ?_
  obtain ⟨⟨d, l, ps, ks, bs⟩, ⟨d1, l1, ps1, ks1, bs1⟩, ⟨⟩⟩ := xs
  clear hg
  change Int at d d1
  change List Stk at l l1
  change List (List UInt8) at ps ps1
  change List Int at ks ks1
  change List (List Msg) at bs bs1
  change NPre (d, l, ps, ks, bs) at hp
  have hpl := hp.l
  have hpk := hp.i.k
  have hpb := hp.i.b
  dsimp only at hpl hpk hpb
  show vfun tab _ k114 Tryz.f114 [.agg [.i .i64 d, .sl StT l, .sl .str ps, .sl (.int .i64) ks, .sl (.slice MsgT) bs], .agg [.i .i64 d1, .sl StT l1, .sl .str ps1, .sl (.int .i64) ks1, .sl (.slice MsgT) bs1]] [] _
  refine Ev.out ?_
  repeat' (first | ((with_reducible refine Ev.mk ?_); conv => whnf) | (with_reducible refine And.intro ?_ ?_) | (intro h))
  all_goals (try simp only [decide_eq_true_eq, decide_eq_false_iff_not, beq_iff_eq, bne_iff_ne, beq_eq_false_iff_ne, bne_eq_false_iff_eq, Int.toNat_natCast, ge_iff_le, gt_iff_lt, Bool.not_eq_true', Bool.not_eq_false', Int.not_lt, Int.not_le, ne_eq] at *)
  all_goals (try dsimp only [Ty.den, Ty.dflt, NdT, SsT, InT, sLSame, sISame] at *)
  all_goals (try simp only [eq4, ne4, eq3, ne3, eq2, ne2, Prod.eta, List.length_cons, List.length_nil, List.length_append, Nat.zero_add] at *)
  all_goals (try simp (disch := omega) only [wrap64] at *)
  all_goals try first | exact leafDraw (by kernel_rfl) | exact Leaf.mk trivial | (refine Leaf.mk ?_; omega) | (refine Leaf.mk ?_; unfold maxLen; omega)
  all_goals first
    | exact Leaf.mk (show l.length ≤ 100000 by omega)
    | exact Leaf.mk (show ks.length ≤ 100000 ∧ bs.length ≤ 100000 by omega)
    | (refine Leaf.mk (ret1 (show sameI (ps, ks, bs) (ps1, ks1, bs1) = sameN (d, l, ps, ks, bs) (d1, l1, ps1, ks1, bs1) from ?_)); exact sameN_i (a := (d, l, ps, ks, bs)) (b := (d1, l1, ps1, ks1, bs1)) ‹d = d1› (of_decide_eq_true (show decide (l = l1) = true from ‹_›)))
    | (refine Leaf.mk (ret1 (show false = sameN (d, l, ps, ks, bs) (d1, l1, ps1, ks1, bs1) from sameN_no fun h9 => ?_)); exact of_decide_eq_false (show decide (l = l1) = false from ‹_›) (congrArg (·.2.1) h9))
    | (refine Leaf.mk (ret1 (show false = sameN (d, l, ps, ks, bs) (d1, l1, ps1, ks1, bs1) from sameN_no fun h9 => ?_)); exact ‹¬ d = d1› (congrArg (·.1) h9))
    | skip
theorem fNSameR : FnOk Tryz.prog 62 := ⟨_, Tryz.func62, by decide, rfl⟩
theorem pNSameR : PSound Tryz.prog 62 sNSameR := by
  refine psound (T := tab) (S := (spOf [(14, sSameAll.spec (lsOf [])), (125, sISameR.spec (lsOf []))])) (keep := k62) (by kernel_rfl) tabOk (spCons (pOk pSameAll fSameAll (by decide) lsNil) (spCons (pOk pISameR fISameR (by decide) lsNil) spNil)) (by kernel_rfl) Tryz.func62 (by kernel_rfl) (by decide) fun xs hg hp => ?_
  obtain ⟨⟨d, l, ps, ks, bs⟩, ⟨d1, l1, ps1, ks1, bs1⟩, ⟨⟩⟩ := xs
  clear hg
  change Int at d d1
  change List Stk at l l1
  change List (List UInt8) at ps ps1
  change List Int at ks ks1
  change List (List Msg) at bs bs1
  change NPre (d, l, ps, ks, bs) at hp
  have hpl := hp.l
  have hpk := hp.i.k
  have hpb := hp.i.b
  dsimp only at hpl hpk hpb
  show vfun tab _ k62 Tryz.f62 [.agg [.i .i64 d, .sl StT l, .sl .str ps, .sl (.int .i64) ks, .sl (.slice MsgT) bs], .agg [.i .i64 d1, .sl StT l1, .sl .str ps1, .sl (.int .i64) ks1, .sl (.slice MsgT) bs1]] [] _
  refine Ev.out ?_
  repeat' (first | ((with_reducible refine Ev.mk ?_); conv => whnf) | (with_reducible refine And.intro ?_ ?_) | (intro h))
  all_goals (try simp only [decide_eq_true_eq, decide_eq_false_iff_not, beq_iff_eq, bne_iff_ne, beq_eq_false_iff_ne, bne_eq_false_iff_eq, Int.toNat_natCast, ge_iff_le, gt_iff_lt, Bool.not_eq_true', Bool.not_eq_false', Int.not_lt, Int.not_le, ne_eq] at *)
  all_goals (try dsimp only [Ty.den, Ty.dflt, NdT, SsT, InT, sSameAll, sISameR, sISame] at *)
  all_goals (try simp only [eq4, ne4, eq3, ne3, eq2, ne2, Prod.eta, List.length_cons, List.length_nil, List.length_append, Nat.zero_add] at *)
  all_goals (try simp (disch := omega) only [wrap64] at *)
  all_goals try first | exact leafDraw (by kernel_rfl) | exact Leaf.mk trivial | (refine Leaf.mk ?_; omega) | (refine Leaf.mk ?_; unfold maxLen; omega)
  all_goals first
    | exact Leaf.mk (show l.length ≤ 100000 by omega)
    | exact Leaf.mk (show ks.length ≤ 100000 ∧ bs.length ≤ 100000 by omega)
    | (refine Leaf.mk (ret1 (show sameI (ps, ks, bs) (ps1, ks1, bs1) = sameN (d, l, ps, ks, bs) (d1, l1, ps1, ks1, bs1) from ?_)); exact sameN_i (a := (d, l, ps, ks, bs)) (b := (d1, l1, ps1, ks1, bs1)) ‹d = d1› (of_decide_eq_true (show decide (l = l1) = true from ‹_›)))
    | (refine Leaf.mk (ret1 (show false = sameN (d, l, ps, ks, bs) (d1, l1, ps1, ks1, bs1) from sameN_no fun h9 => ?_)); exact of_decide_eq_false (show decide (l = l1) = false from ‹_›) (congrArg (·.2.1) h9))
    | (refine Leaf.mk (ret1 (show false = sameN (d, l, ps, ks, bs) (d1, l1, ps1, ks1, bs1) from sameN_no fun h9 => ?_)); exact ‹¬ d = d1› (congrArg (·.1) h9))
    | skip
def lightI (n : Inn) : Bool := decide (n.1.length ≤ 10 ∧ n.2.1.length ≤ 10 ∧ n.2.2.length ≤ 10) && (n.1.all (fun p => decide (p.length ≤ 100)) && n.2.2.all (fun b => lightM b 30))
def sLightI : PSpec := ⟨[.d InT], [⟨false, [.d .bool]⟩], fun _ => True, fun x => ((lightI x.1, ()), ())⟩
theorem lightI_pre {n : Inn} (h : lightI n = true) : IPre n ∧ ∀ b ∈ n.2.2, b.length ≤ 30 := by
  simp only [lightI, Bool.and_eq_true, decide_eq_true_eq, List.all_eq_true] at h
  obtain ⟨⟨h1, h2, h3⟩, h4, h5⟩ := h
  have hb : ∀ b ∈ n.2.2, b.length ≤ 30 := fun b hb => by
    have := h5 b hb
    unfold lightM at this
    rw [Bool.and_eq_true, decide_eq_true_eq] at this
    omega
  have hf : n.2.2.flatten.length ≤ n.2.2.length * 30 := by
    have := flat_len2 (f := id) (m := 30) (l := n.2.2) hb
    rwa [List.flatMap_id] at this
  exact ⟨⟨by omega, fun p hp => by have := h4 p hp; omega, by omega, by omega, by omega⟩, hb⟩
theorem lightI_no {n : Inn} (h : (¬ (n.1.length ≤ 10 ∧ n.2.1.length ≤ 10 ∧ n.2.2.length ≤ 10)) ∨ (∃ i, i < n.1.length ∧ ¬ (n.1.getD i []).length ≤ 100) ∨ ∃ i, i < n.2.2.length ∧ lightM (n.2.2.getD i []) 30 = false) : lightI n = false := by
  apply Bool.eq_false_iff.2
  intro hc
  simp only [lightI, Bool.and_eq_true, decide_eq_true_eq, List.all_eq_true] at hc
  rcases h with h | ⟨i, hi, h⟩ | ⟨i, hi, h⟩
  · exact h hc.1
  · exact h (hc.2.1 _ (getD_mem (xs := n.1) [] hi))
  · rw [hc.2.2 _ (getD_mem (xs := n.2.2) [] hi)] at h; cases h
theorem all_getD {α : Type} {p : α → Bool} {l : List α} (d : α) (h : ∀ i, i < l.length → p (l.getD i d) = true) : l.all p = true := by
  rw [List.all_eq_true]
  intro x hx
  obtain ⟨i, hi, rfl⟩ := List.mem_iff_getElem.1 hx
  have := h i hi
  rwa [List.getD_eq_getElem?_getD, List.getElem?_eq_getElem hi] at this
theorem lightI_yes {n : Inn} (h : n.1.length ≤ 10 ∧ n.2.1.length ≤ 10 ∧ n.2.2.length ≤ 10) (h1 : ∀ i, i < n.1.length → (n.1.getD i []).length ≤ 100) (h2 : ∀ i, i < n.2.2.length → lightM (n.2.2.getD i []) 30 = true) : lightI n = true := by
  rw [lightI, decide_eq_true h, all_getD [] (fun i hi => decide_eq_true (h1 i hi)), all_getD [] h2]; rfl
theorem fLightI : FnOk Tryz.prog 111 := ⟨_, Tryz.func111, by decide, rfl⟩
theorem pLightI : PSound Tryz.prog 111 sLightI := by
  refine psound (T := tab) (S := (spOf [(11, sLightM.spec (lsOf []))])) (keep := k111) (by kernel_rfl) tabOk (spCons (pOk pLightM fLightM (by decide) lsNil) spNil) (by kernel_rfl) Tryz.func111 (by kernel_rfl) (by decide) fun xs hg hp => ?_
  obtain ⟨⟨ps, ks, bs⟩, ⟨⟩⟩ := xs
  obtain ⟨⟨⟨hlp, -⟩, -, ⟨hlb, -⟩⟩, -⟩ := hg
  change List (List UInt8) at ps
  change List Int at ks
  change List (List Msg) at bs
  have hlp := len63 hlp
  have hlb := len63 hlb
  clear hp
  show vfun tab _ k111 Tryz.f111 [.agg [.sl .str ps, .sl (.int .i64) ks, .sl (.slice MsgT) bs]] [] _
  refine Ev.out ?_
  repeat' (first | ((with_reducible refine Ev.mk ?_); conv => whnf) | (with_reducible refine And.intro ?_ ?_) | (intro h))
  all_goals (try simp only [decide_eq_true_eq, decide_eq_false_iff_not, beq_iff_eq, bne_iff_ne, beq_eq_false_iff_ne, bne_eq_false_iff_eq, Int.toNat_natCast, ge_iff_le, gt_iff_lt, Bool.not_eq_true', Bool.not_eq_false', Int.not_lt, Int.not_le, ne_eq] at *)
  all_goals (try dsimp only [Ty.den, Ty.dflt, InT] at *)
  all_goals (try simp only [eq4, ne4, eq3, ne3, eq2, ne2, Prod.eta, List.length_cons, List.length_nil, List.length_append, Nat.zero_add] at *)
  all_goals (try simp (disch := omega) only [wrap64] at *)
  all_goals try first | exact leafDraw (by kernel_rfl) | exact Leaf.mk trivial | (refine Leaf.mk ?_; omega) | (refine Leaf.mk ?_; unfold maxLen; omega)
  · exact Leaf.mk (ret1 (show false = lightI (ps, ks, bs) from (lightI_no (.inl (by dsimp only; omega))).symm))
  · exact Leaf.mk (ret1 (show false = lightI (ps, ks, bs) from (lightI_no (.inl (by dsimp only; omega))).symm))
  · exact Leaf.mk (ret1 (show false = lightI (ps, ks, bs) from (lightI_no (.inl (by dsimp only; omega))).symm))
  refine LoopVC.on (fun i : Nat => [(3, .i .i64 i)]) (fun _ => []) (fun i => i ≤ ps.length ∧ ∀ j, j < i → (ps.getD j []).length ≤ 100) (fun i => ps.length - i) 0 rfl ⟨by omega, fun j hj => by omega⟩ ?_
  intro i ⟨hi, ha⟩
  repeat' (first | ((with_reducible refine Ev.mk ?_); conv => whnf) | (with_reducible refine And.intro ?_ ?_) | (intro h))
  all_goals (try simp only [decide_eq_true_eq, decide_eq_false_iff_not, beq_iff_eq, bne_iff_ne, beq_eq_false_iff_ne, bne_eq_false_iff_eq, Int.toNat_natCast, ge_iff_le, gt_iff_lt, Bool.not_eq_true', Bool.not_eq_false', Int.not_lt, Int.not_le, ne_eq] at *)
  all_goals (try dsimp only [Ty.den, Ty.dflt, InT] at *)
  all_goals (try simp only [eq4, ne4, eq3, ne3, eq2, ne2, Prod.eta, List.length_cons, List.length_nil, List.length_append, Nat.zero_add] at *)
  all_goals (try simp (disch := omega) only [wrap64] at *)
  all_goals try first | exact leafDraw (by kernel_rfl) | exact Leaf.mk trivial | (refine Leaf.mk ?_; omega) | (refine Leaf.mk ?_; unfold maxLen; omega)
  · refine Leaf.mk (ret1 (show false = lightI (ps, ks, bs) from (lightI_no (.inr (.inl ⟨i, by dsimp only; omega, ?_⟩))).symm)); dsimp only; omega
  · refine Leaf.mk ⟨i + 1, rfl, ⟨by omega, fun j hj => ?_⟩, by omega⟩
    rcases Nat.lt_or_ge j i with hji | hji
    · exact ha j hji
    · obtain rfl : j = i := by omega
      omega
  refine LoopVC.on (fun i : Nat => [(4, .i .i64 i)]) (fun _ => []) (fun i => i ≤ bs.length ∧ ∀ j, j < i → lightM (bs.getD j []) 30 = true) (fun i => bs.length - i) 0 rfl ⟨by omega, fun j hj => by omega⟩ ?_
  intro k ⟨hk, hb⟩
  repeat' (first | ((with_reducible refine Ev.mk ?_); conv => whnf) | (with_reducible refine And.intro ?_ ?_) | (intro h))
  all_goals (try simp only [decide_eq_true_eq, decide_eq_false_iff_not, beq_iff_eq, bne_iff_ne, beq_eq_false_iff_ne, bne_eq_false_iff_eq, Int.toNat_natCast, ge_iff_le, gt_iff_lt, Bool.not_eq_true', Bool.not_eq_false', Int.not_lt, Int.not_le, ne_eq] at *)
  all_goals (try dsimp only [Ty.den, Ty.dflt, InT, sLightM] at *)
  all_goals (try simp only [eq4, ne4, eq3, ne3, eq2, ne2, Prod.eta, List.length_cons, List.length_nil, List.length_append, Nat.zero_add] at *)
  all_goals (try simp (disch := omega) only [wrap64] at *)
  all_goals try first | exact leafDraw (by kernel_rfl) | exact Leaf.mk trivial | (refine Leaf.mk ?_; omega) | (refine Leaf.mk ?_; unfold maxLen; omega)
  · exact Leaf.mk (ret1 (show false = lightI (ps, ks, bs) from (lightI_no (.inr (.inr ⟨k, by dsimp only; omega, ‹_›⟩))).symm))
  · refine Leaf.mk ⟨k + 1, rfl, ⟨by omega, fun j hj => ?_⟩, by omega⟩
    rcases Nat.lt_or_ge j k with hji | hji
    · exact hb j hji
    · obtain rfl : j = k := by omega
      assumption
  · refine Leaf.mk (ret1 (show true = lightI (ps, ks, bs) from (lightI_yes ⟨by dsimp only; omega, by dsimp only; omega, by dsimp only; omega⟩ (fun j hj => ha j (by dsimp only at hj; omega)) (fun j hj => hb j (by dsimp only at hj; omega))).symm))
def lightN (n : Nod) : Bool := lightL n.2.1 12 && lightI n.2.2
def sLightN : PSpec := ⟨[.d NdT], [⟨false, [.d .bool]⟩], fun _ => True, fun x => ((lightN x.1, ()), ())⟩
theorem lightN_pre {n : Nod} (h : lightN n = true) : NPre n ∧ n.2.1.length ≤ 12 ∧ n.2.2.2.2.length ≤ 20 ∧ n.2.2.1.length ≤ 20 ∧ n.2.2.2.1.length ≤ 20 ∧ ∀ b ∈ n.2.2.2.2, b.length ≤ 30 := by
  rw [lightN, Bool.and_eq_true] at h
  have h1 : (n.2.1.length : Int) ≤ 12 := by
    have := h.1
    unfold lightL at this
    rw [Bool.and_eq_true, decide_eq_true_eq] at this
    exact this.1
  have h2 := lightI_pre h.2
  have h3 := h2.1
  exact ⟨⟨by omega, h3⟩, by omega, h3.b, h3.p, h3.k, h2.2⟩
theorem fLightN : FnOk Tryz.prog 51 := ⟨_, Tryz.func51, by decide, rfl⟩
theorem pLightN : PSound Tryz.prog 51 sLightN := by
  refine psound (T := tab) (S := (spOf [(10, sLight14.spec (lsOf [])), (111, sLightI.spec (lsOf []))])) (keep := k51) (by kernel_rfl) tabOk (spCons (pOk pLight14 fLight14 (by decide) lsNil) (spCons (pOk pLightI fLightI (by decide) lsNil) spNil)) (by kernel_rfl) Tryz.func51 (by kernel_rfl) (by decide) fun xs hg hp => ?_
  obtain ⟨⟨d, l, ps, ks, bs⟩, ⟨⟩⟩ := xs
  clear hg hp
  change Int at d
  change List Stk at l
  change List (List UInt8) at ps
  change List Int at ks
  change List (List Msg) at bs
  show vfun tab _ k51 Tryz.f51 [.agg [.i .i64 d, .sl StT l, .sl .str ps, .sl (.int .i64) ks, .sl (.slice MsgT) bs]] [] _
  refine Ev.out ?_
  repeat' (first | ((with_reducible refine Ev.mk ?_); conv => whnf) | (with_reducible refine And.intro ?_ ?_) | (intro h))
  all_goals (try simp only [decide_eq_true_eq, decide_eq_false_iff_not, beq_iff_eq, bne_iff_ne, beq_eq_false_iff_ne, bne_eq_false_iff_eq, Int.toNat_natCast, ge_iff_le, gt_iff_lt, Bool.not_eq_true', Bool.not_eq_false', Int.not_lt, Int.not_le, ne_eq] at *)
  all_goals (try dsimp only [Ty.den, Ty.dflt, NdT, InT, SsT, sLight14, sLightI] at *)
  all_goals (try simp only [eq4, ne4, eq3, ne3, eq2, ne2, Prod.eta, List.length_cons, List.length_nil, List.length_append, Nat.zero_add] at *)
  all_goals (try simp (disch := omega) only [wrap64] at *)
  all_goals try first | exact leafDraw (by kernel_rfl) | exact Leaf.mk trivial | (refine Leaf.mk ?_; omega) | (refine Leaf.mk ?_; unfold maxLen; omega)
  · refine Leaf.mk (ret1 (show lightI (ps, ks, bs) = lightN (d, l, ps, ks, bs) from ?_))
    rw [lightN, show lightL l 12 = true from ‹_›, Bool.true_and]
  · refine Leaf.mk (ret1 (show false = lightN (d, l, ps, ks, bs) from ?_))
    rw [lightN, show lightL l 12 = false from ‹_›, Bool.false_and]
def sBackN : PSpec := ⟨[.d NdT], [⟨true, [.d NdT]⟩], fun _ => True, fun x => ((x.1, ()), ())⟩
theorem fBackN : FnOk Tryz.prog 63 := ⟨_, Tryz.func63, by decide, rfl⟩
theorem pBackN : PSound Tryz.prog 63 sBackN := by
  refine psound (T := tab) (S := (spOf [])) (keep := k63) (by kernel_rfl) tabOk spNil (by kernel_rfl) Tryz.func63 (by kernel_rfl) (by decide) fun xs hg hp => ?_
  obtain ⟨⟨d, l, ps, ks, bs⟩, ⟨⟩⟩ := xs
  clear hg hp
  change Int at d
  change List Stk at l
  change List (List UInt8) at ps
  change List Int at ks
  change List (List Msg) at bs
  show vfun tab _ k63 Tryz.f63 [.agg [.i .i64 d, .sl StT l, .sl .str ps, .sl (.int .i64) ks, .sl (.slice MsgT) bs]] [] _
  refine Ev.out ?_
  repeat' (first | ((with_reducible refine Ev.mk ?_); conv => whnf) | (with_reducible refine And.intro ?_ ?_) | (intro h))
  all_goals (try simp only [decide_eq_true_eq, decide_eq_false_iff_not, beq_iff_eq, bne_iff_ne, beq_eq_false_iff_ne, bne_eq_false_iff_eq, Int.toNat_natCast, ge_iff_le, gt_iff_lt, Bool.not_eq_true', Bool.not_eq_false', Int.not_lt, Int.not_le, ne_eq] at *)
  all_goals (try dsimp only [Ty.den, Ty.dflt, NdT, InT, SsT] at *)
  all_goals (try simp only [eq4, ne4, eq3, ne3, eq2, ne2, Prod.eta, List.length_cons, List.length_nil, List.length_append, Nat.zero_add] at *)
  all_goals (try simp (disch := omega) only [wrap64] at *)
  all_goals exact Leaf.mk rfl
def sOwnN : PSpec := ⟨[.d NdT], [⟨true, [.d NdT]⟩], fun x => NPre x.1 ∧ ∀ b ∈ x.1.2.2.2.2, List.length b ≤ 1000, fun x => ((x.1, ()), ())⟩
theorem fOwnN : FnOk Tryz.prog 54 := ⟨_, Tryz.func54, by decide, rfl⟩
theorem pOwnN : PSound Tryz.prog 54 sOwnN := by
  refine psound (T := tab) (S := (spOf [])) (keep := k54) (by kernel_rfl) tabOk spNil (by kernel_rfl) Tryz.func54 (by kernel_rfl) (by decide) fun xs hg hp => ?_
  obtain ⟨⟨d, l, ps, ks, bs⟩, ⟨⟩⟩ := xs
  clear hg
  change Int at d
  change List Stk at l
  change List (List UInt8) at ps
  change List Int at ks
  change List (List Msg) at bs
  change NPre (d, l, ps, ks, bs) ∧ ∀ b ∈ bs, List.length b ≤ 1000 at hp
  obtain ⟨hp, hbm⟩ := hp
  have hpl := hp.l
  have hpp := hp.i.p
  have hpk := hp.i.k
  have hpb := hp.i.b
  dsimp only at hpl hpp hpk hpb
  show vfun tab _ k54 Tryz.f54 [.agg [.i .i64 d, .sl StT l, .sl .str ps, .sl (.int .i64) ks, .sl (.slice MsgT) bs]] [] _
  refine Ev.out ?_
  repeat' (first | ((with_reducible refine Ev.mk ?_); conv => whnf) | (with_reducible refine And.intro ?_ ?_) | (intro h))
  all_goals (try simp only [decide_eq_true_eq, decide_eq_false_iff_not, beq_iff_eq, bne_iff_ne, beq_eq_false_iff_ne, bne_eq_false_iff_eq, Int.toNat_natCast, ge_iff_le, gt_iff_lt, Bool.not_eq_true', Bool.not_eq_false', Int.not_lt, Int.not_le, ne_eq] at *)
  all_goals (try dsimp only [Ty.den, Ty.dflt, NdT, InT, SsT] at *)
  all_goals (try simp only [eq4, ne4, eq3, ne3, eq2, ne2, Prod.eta, List.length_cons, List.length_nil, List.length_append, Nat.zero_add] at *)
  all_goals (try simp (disch := omega) only [wrap64] at *)
  all_goals try first | exact leafDraw (by kernel_rfl) | exact Leaf.mk trivial | (refine Leaf.mk ?_; omega) | (refine Leaf.mk ?_; unfold maxLen; omega)
  refine LoopVC.weak [(.cell 2 4, .nil 23 (.slice MsgT))] (fun i : Nat => [(4, .i .i64 i)]) (fun i => [(6, .arr 23 (.slice MsgT) (bs.take i))]) (fun i => i ≤ bs.length) (fun i => bs.length - i) 0 (Ev.mk ?_)
  (conv => whnf)
  refine ⟨Leaf.mk ?_, Leaf.mk ?_, ?_⟩
  · rfl
  · omega
  intro i hi
  have hbi := fun h => hbm _ (getD_mem (xs := bs) [] (show i < bs.length from h))
  repeat' (first | ((with_reducible refine Ev.mk ?_); conv => whnf) | (with_reducible refine And.intro ?_ ?_) | (intro h))
  all_goals (try simp only [decide_eq_true_eq, decide_eq_false_iff_not, beq_iff_eq, bne_iff_ne, beq_eq_false_iff_ne, bne_eq_false_iff_eq, Int.toNat_natCast, ge_iff_le, gt_iff_lt, Bool.not_eq_true', Bool.not_eq_false', Int.not_lt, Int.not_le, ne_eq] at *)
  all_goals (try dsimp only [Ty.den, Ty.dflt, NdT, InT, SsT] at *)
  all_goals (try simp only [eq4, ne4, eq3, ne3, eq2, ne2, Prod.eta, List.length_cons, List.length_nil, List.length_append, Nat.zero_add] at *)
  all_goals (try simp (disch := omega) only [wrap64] at *)
  all_goals try first | exact leafDraw (by kernel_rfl) | exact Leaf.mk trivial | (refine Leaf.mk ?_; omega) | (refine Leaf.mk ?_; unfold maxLen; omega)
  all_goals have htl : (bs.take i).length = i := by rw [List.length_take]; omega
  all_goals first
    | (refine Leaf.mk ?_; have := hbi (by omega); omega)
    | (refine Leaf.mk ?_; have := hbi (by omega); unfold maxLen; omega)
    | (refine Leaf.mk ?_; omega)
    | (refine Leaf.mk ?_; unfold maxLen; omega)
    | (refine Leaf.mk (Exists.intro (i + 1) ⟨?_, by omega, by omega⟩)
       rw [take_at [] (show i < bs.length by omega)]; rfl)
    | (have hbt : bs.take i = bs := List.take_of_length_le (by omega)
       refine Leaf.mk (ret1 (show ((d, [] ++ l, ps, ks, bs.take i) : Nod) = (d, l, ps, ks, bs) from ?_))
       rw [hbt, List.nil_append])
    | skip
theorem ipre_iff {n : Inn} : IPre n ↔ n.1.length ≤ 20 ∧ (∀ p ∈ n.1, p.length ≤ 1000) ∧ n.2.1.length ≤ 20 ∧ n.2.2.length ≤ 20 ∧ n.2.2.flatten.length ≤ 5000 := ⟨fun h => ⟨h.p, h.pt, h.k, h.b, h.m⟩, fun h => ⟨h.1, h.2.1, h.2.2.1, h.2.2.2.1, h.2.2.2.2⟩⟩
instance decIPre (n : Inn) : Decidable (IPre n) := decidable_of_iff _ ipre_iff.symm
theorem npre_iff {n : Nod} : NPre n ↔ n.2.1.length ≤ 100000 ∧ IPre n.2.2 := ⟨fun h => ⟨h.l, h.i⟩, fun h => ⟨h.1, h.2⟩⟩
instance decNPre (n : Nod) : Decidable (NPre n) := decidable_of_iff _ npre_iff.symm
def sAwake16 : PSpec := ⟨[], [⟨false, [.d .bool]⟩], fun _ => True, fun _ => ((true, ()), ())⟩
theorem fAwake16 : FnOk Tryz.prog 52 := ⟨_, Tryz.func52, by decide, rfl⟩
theorem pAwake16 : PSound Tryz.prog 52 sAwake16 := by
  refine psound (T := tab) (S := (spOf [(53, sNPut.spec (lsOf [])), (56, sNGet.spec (lsOf [])), (112, sNKids.spec (lsOf [])), (113, sNFirst.spec (lsOf [])), (60, sNSize.spec (lsOf [])), (114, sNSame.spec (lsOf [])), (58, sNCheck.spec (lsOf []))])) (keep := k52) (by kernel_rfl) tabOk (spCons (pOk pNPut fNPut (by decide) lsNil) (spCons (pOk pNGet fNGet (by decide) lsNil) (spCons (pOk pNKids fNKids (by decide) lsNil) (spCons (pOk pNFirst fNFirst (by decide) lsNil) (spCons (pOk pNSize fNSize (by decide) lsNil) (spCons (pOk pNSame fNSame (by decide) lsNil) (spCons (pOk pNCheck fNCheck (by decide) lsNil) spNil))))))) (by kernel_rfl) Tryz.func52 (by kernel_rfl) (by decide) fun xs hg hp => ?_
  obtain ⟨⟩ := xs
  show vfun tab _ k52 Tryz.f52 [] [] _
  refine Ev.out ?_
  repeat' (first | ((with_reducible refine Ev.mk ?_); conv => whnf) | (with_reducible refine And.intro ?_ ?_) | (intro h; first | exact absurd h (by decide +kernel) | skip))
  all_goals first
    | exact Leaf.mk trivial
    | exact leafDraw (by kernel_rfl)
    | (refine Leaf.mk ?_; change NPre _; decide +kernel)
    | (refine Leaf.mk ?_; change (_ : Nat) ≤ _; decide +kernel)
    | (refine Leaf.mk ?_; decide +kernel)
    | exact Leaf.mk rfl
    | skip
end Go.Proofs.YtkmfjlfejdoehaaGreat

set_option linter.unusedVariables false
set_option linter.unusedSimpArgs false
set_option maxRecDepth 8000
set_option maxHeartbeats 4000000
namespace Go.Proofs.YtkmfjlfejdoehaaGreat
open Go.Eng
theorem getN_pre (b : List Int) : NPre (getN b).1 := by
  cases b with
  | nil => exact ⟨by decide, ⟨by decide, fun p hp => by simp [getN] at hp, by decide, by decide, by decide⟩⟩
  | cons k q =>
    rw [getN]; split
    · exact readN_pre k q
    · exact ⟨by decide, ⟨by decide, fun p hp => by simp at hp, by decide, by decide, by decide⟩⟩
theorem sameN_self {a : Nod} {P : Prop} (h : sameN a a = false) : P := absurd (sameN_iff.2 rfl) (by rw [h]; simp)
def sNodePuts : PSpec := lawSpec [NdT, BT]
theorem pNodePuts : PSound Tryz.prog 9 sNodePuts := by
  refine psound (T := tab) (S := (spOf [(51, sLightN.spec (lsOf [])), (52, sAwake16.spec (lsOf [])), (54, sOwnN.spec (lsOf [])), (53, sNPut.spec (lsOf [])), (55, sNPutR.spec (lsOf [])), (56, sNGet.spec (lsOf [])), (57, sNGetR.spec (lsOf [])), (58, sNCheck.spec (lsOf [])), (59, sNCheckR.spec (lsOf [])), (60, sNSize.spec (lsOf [])), (61, sNSizeR.spec (lsOf [])), (63, sBackN.spec (lsOf [])), (62, sNSameR.spec (lsOf []))])) (keep := k9) (by kernel_rfl) tabOk (spCons (pOk pLightN fLightN (by decide) lsNil) (spCons (pOk pAwake16 fAwake16 (by decide) lsNil) (spCons (pOk pOwnN fOwnN (by decide) lsNil) (spCons (pOk pNPut fNPut (by decide) lsNil) (spCons (pOk pNPutR fNPutR (by decide) lsNil) (spCons (pOk pNGet fNGet (by decide) lsNil) (spCons (pOk pNGetR fNGetR (by decide) lsNil) (spCons (pOk pNCheck fNCheck (by decide) lsNil) (spCons (pOk pNCheckR fNCheckR (by decide) lsNil) (spCons (pOk pNSize fNSize (by decide) lsNil) (spCons (pOk pNSizeR fNSizeR (by decide) lsNil) (spCons (pOk pBackN fBackN (by decide) lsNil) (spCons (pOk pNSameR fNSameR (by decide) lsNil) spNil))))))))))))) (by kernel_rfl) Tryz.func9 (by kernel_rfl) (by decide) fun xs hg hp => ?_
  obtain ⟨⟨d, l, ps, ks, bs⟩, b, ⟨⟩⟩ := xs
  clear hp hg
  change Int at d
  change List Stk at l
  change List (List UInt8) at ps
  change List Int at ks
  change List (List Msg) at bs
  change List Int at b
  show vfun tab _ k9 Tryz.f9 [.agg [.i .i64 d, .sl StT l, .sl .str ps, .sl (.int .i64) ks, .sl (.slice MsgT) bs], .sl (.int .u8) b] [] _
  refine Ev.out ?_
  repeat' (first | ((with_reducible refine Ev.mk ?_); conv => whnf) | (with_reducible refine And.intro ?_ ?_) | (intro h))
  all_goals (try simp only [decide_eq_true_eq, decide_eq_false_iff_not, beq_iff_eq, bne_iff_ne, beq_eq_false_iff_ne, bne_eq_false_iff_eq, Int.toNat_natCast, ge_iff_le, gt_iff_lt, Bool.not_eq_true', Bool.not_eq_false', Int.not_lt, Int.not_le, ne_eq] at *)
  all_goals (try dsimp only [Ty.den, Ty.dflt, NdT, InT, SsT, sLightN] at *)
  all_goals (try simp only [eq4, ne4, eq3, ne3, eq2, ne2, Prod.eta, List.length_cons, List.length_nil, List.length_append, Nat.zero_add] at *)
  all_goals (try simp (disch := omega) only [wrap64] at *)
  all_goals try first | exact leafDraw (by kernel_rfl) | exact Leaf.mk trivial | (refine Leaf.mk ?_; omega) | (refine Leaf.mk ?_; unfold maxLen; omega)
  all_goals first
    | exact Leaf.mk trivial
    | exact Leaf.mk rfl
    | exact absurd rfl h
    | skip
  all_goals
    have hL := lightN_pre ‹lightN (d, l, ps, ks, bs) = true›
    have hN := hL.1
    have hO := hL.2.2.2.2.2
    dsimp only at hO
  all_goals first
    | exact Leaf.mk (show NPre (d, l, ps, ks, bs) from hN)
    | exact Leaf.mk (show NPre (d, l, ps, ks, bs) ∧ ∀ b ∈ bs, b.length ≤ 1000 from ⟨hN, fun b hb => by have := hO b hb; omega⟩)
    | exact Leaf.mk (show List.length (α := Int) b ≤ 5000 by omega)
    | exact Leaf.mk (show NPre (getN b).1 from getN_pre b)
    | exact sameN_self (show sameN (getN b).1 (getN b).1 = false from ‹_›)
    | skip
end Go.Proofs.YtkmfjlfejdoehaaGreat
