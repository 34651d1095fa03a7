import Derived.Test.YtkmfjlfejdoehaaQ10
/- Texts, one behind the other. -/
set_option linter.unusedVariables false
set_option linter.unusedSimpArgs false
set_option maxRecDepth 8000
set_option maxHeartbeats 4000000
namespace Go.Proofs.Ytkmfjlfejdoehaa
open Go.Eng
def kidsN (n : Nod) : List Int := if n.1 = 0 then [] else n.2.2.2.1
def sCloneI : PSpec := ⟨[.d (.slice I64T)], [⟨false, [.o 3 I64T]⟩], fun x => x.1.length ≤ 1000000, fun x => ((x.1, ()), ())⟩
theorem fCloneI : FnOk Try.prog 43 := ⟨_, Try.func43, by decide, rfl⟩
theorem pCloneI : PSound Try.prog 43 sCloneI := by
  refine psound (T := tab) (S := (spOf [])) (keep := k43) (by kernel_rfl) tabOk spNil (by kernel_rfl) Try.func43 (by kernel_rfl) (by decide) fun xs hg hp => ?_
  obtain ⟨xs, ⟨⟩⟩ := xs
  obtain ⟨⟨hl, -⟩, -⟩ := hg
  change List Int at xs
  clear hl
  change xs.length ≤ 1000000 at hp
  show vfun tab _ k43 Try.f43 [.sl I64T xs] [] _
  refine Ev.out ?_
  repeat' (first | ((with_reducible refine Ev.mk ?_); conv => whnf) | (with_reducible refine And.intro ?_ ?_) | (intro h))
  all_goals (try simp only [decide_eq_true_eq, decide_eq_false_iff_not, beq_iff_eq, bne_iff_ne, beq_eq_false_iff_ne, bne_eq_false_iff_eq, Int.toNat_natCast, ge_iff_le, gt_iff_lt, Bool.not_eq_true', Bool.not_eq_false', Int.not_lt, Int.not_le, ne_eq] at *)
  all_goals (try dsimp only [Ty.den, Ty.dflt, I64T] at *)
  all_goals (try simp only [eq4, ne4, eq3, ne3, eq2, ne2, Prod.eta, List.length_cons, List.length_nil, List.length_append, Nat.zero_add] at *)
  all_goals (try simp (disch := omega) only [wrap64] at *)
  all_goals try first | exact leafDraw (by kernel_rfl) | exact Leaf.mk trivial | (refine Leaf.mk ?_; omega) | (refine Leaf.mk ?_; unfold maxLen; omega)
  all_goals first
    | (refine Leaf.mk (ret1 (show ([] : List Int) = xs from ?_)); exact (List.eq_nil_of_length_eq_zero (by omega)).symm)
    | exact Leaf.mk (ret1 rfl)
    | skip
def sNKids : PSpec := ⟨[.d NdT], [⟨false, [.d (.slice (.int .i64))]⟩], fun x => NPre x.1, fun x => ((kidsN x.1, ()), ())⟩
theorem fNKids : FnOk Try.prog 22 := ⟨_, Try.func22, by decide, rfl⟩
theorem pNKids : PSound Try.prog 22 sNKids := by
  refine psound (T := tab) (S := (spOf [(43, sCloneI.spec (lsOf []))])) (keep := k22) (by kernel_rfl) tabOk (spCons (pOk pCloneI fCloneI (by decide) lsNil) spNil) (by kernel_rfl) Try.func22 (by kernel_rfl) (by decide) fun xs hg hp => ?_
  obtain ⟨⟨d, l, ps, ks, bs⟩, ⟨⟩⟩ := xs
  clear hg
  change Int at d
  change List Stk at l
  change List (List UInt8) at ps
  change List Int at ks
  change List (List Msg) at bs
  change NPre (d, l, ps, ks, bs) at hp
  have hpl := hp.l
  have hpi := hp.i
  have hpp := hpi.p
  have hpk := hpi.k
  have hpb := hpi.b
  dsimp only at hpl hpi hpp hpk hpb
  show vfun tab _ k22 Try.f22 [.agg [.i .i64 d, .sl StT l, .sl .str ps, .sl (.int .i64) ks, .sl (.slice MsgT) bs]] [] _
  refine Ev.out ?_
  repeat' (first | ((with_reducible refine Ev.mk ?_); conv => whnf) | (with_reducible refine And.intro ?_ ?_) | (intro h))
  all_goals (try simp only [decide_eq_true_eq, decide_eq_false_iff_not, beq_iff_eq, bne_iff_ne, beq_eq_false_iff_ne, bne_eq_false_iff_eq, Int.toNat_natCast, ge_iff_le, gt_iff_lt, Bool.not_eq_true', Bool.not_eq_false', Int.not_lt, Int.not_le, ne_eq] at *)
  all_goals (try dsimp only [Ty.den, Ty.dflt, NdT, SsT, InT] at *)
  all_goals (try simp only [eq4, ne4, eq3, ne3, eq2, ne2, Prod.eta, List.length_cons, List.length_nil, List.length_append, Nat.zero_add] at *)
  all_goals (try simp (disch := omega) only [wrap64] at *)
  all_goals try first | exact leafDraw (by kernel_rfl) | exact Leaf.mk trivial | (refine Leaf.mk ?_; omega) | (refine Leaf.mk ?_; unfold maxLen; omega)
  all_goals first
    | exact Leaf.mk (show ks.length ≤ 1000000 by omega)
    | (refine Leaf.mk (ret1 (show ([] : List Int) = kidsN (d, l, ps, ks, bs) from ?_)); rw [kidsN, if_pos h])
    | (refine Leaf.mk (ret1 (show ks = kidsN (d, l, ps, ks, bs) from ?_)); rw [kidsN, if_neg h])
    | skip
def firstN (n : Nod) : List UInt8 × Bool := if n.1 = 0 then (if 0 < n.2.1.length then ((n.2.1.getD 0 stk0).1, true) else ([], false)) else (if 0 < n.2.2.1.length then (n.2.2.1.getD 0 [], true) else ([], false))
theorem retFn {u v : List UInt8 × Bool} (h : u = v) : (some ((u.1, ()), (u.2, ()), ()) : Option ((List UInt8 × Unit) × (Bool × Unit) × Unit)) = some ((v.1, ()), (v.2, ()), ()) := by rw [h]
def sNFirst : PSpec := ⟨[.d NdT], [⟨false, [.d .str]⟩, ⟨false, [.d .bool]⟩], fun x => NPre x.1, fun x => (((firstN x.1).1, ()), ((firstN x.1).2, ()), ())⟩
theorem fNFirst : FnOk Try.prog 23 := ⟨_, Try.func23, by decide, rfl⟩
theorem pNFirst : PSound Try.prog 23 sNFirst := by
  refine psound (T := tab) (S := (spOf [])) (keep := k23) (by kernel_rfl) tabOk spNil (by kernel_rfl) Try.func23 (by kernel_rfl) (by decide) fun xs hg hp => ?_
  obtain ⟨⟨d, l, ps, ks, bs⟩, ⟨⟩⟩ := xs
  clear hg
  change Int at d
  change List Stk at l
  change List (List UInt8) at ps
  change List Int at ks
  change List (List Msg) at bs
  change NPre (d, l, ps, ks, bs) at hp
  have hpl := hp.l
  have hpi := hp.i
  have hpp := hpi.p
  have hpk := hpi.k
  have hpb := hpi.b
  dsimp only at hpl hpi hpp hpk hpb
  show vfun tab _ k23 Try.f23 [.agg [.i .i64 d, .sl StT l, .sl .str ps, .sl (.int .i64) ks, .sl (.slice MsgT) bs]] [] _
  refine Ev.out ?_
  repeat' (first | ((with_reducible refine Ev.mk ?_); conv => whnf) | (with_reducible refine And.intro ?_ ?_) | (intro h))
  all_goals (try simp only [decide_eq_true_eq, decide_eq_false_iff_not, beq_iff_eq, bne_iff_ne, beq_eq_false_iff_ne, bne_eq_false_iff_eq, Int.toNat_natCast, ge_iff_le, gt_iff_lt, Bool.not_eq_true', Bool.not_eq_false', Int.not_lt, Int.not_le, ne_eq] at *)
  all_goals (try dsimp only [Ty.den, Ty.dflt, NdT, SsT, InT] at *)
  all_goals (try simp only [eq4, ne4, eq3, ne3, eq2, ne2, Prod.eta, List.length_cons, List.length_nil, List.length_append, Nat.zero_add] at *)
  all_goals (try simp (disch := omega) only [wrap64] at *)
  all_goals try first | exact leafDraw (by kernel_rfl) | exact Leaf.mk trivial | (refine Leaf.mk ?_; omega) | (refine Leaf.mk ?_; unfold maxLen; omega)
  all_goals first
    | (refine Leaf.mk (retFn (u := ((l.getD 0 stk0).1, true)) (v := firstN (d, l, ps, ks, bs)) ?_); rw [firstN, if_pos (show d = 0 by omega), if_pos (show 0 < l.length by omega)]; done)
    | (refine Leaf.mk (retFn (u := (ps.getD 0 [], true)) (v := firstN (d, l, ps, ks, bs)) ?_); rw [firstN, if_neg (show ¬ d = 0 by omega), if_pos (show 0 < ps.length by omega)]; done)
    | (refine Leaf.mk (retFn (u := ([], false)) (v := firstN (d, l, ps, ks, bs)) ?_); rw [firstN, if_pos (show d = 0 by omega), if_neg (show ¬ 0 < l.length by omega)]; done)
    | (refine Leaf.mk (retFn (u := ([], false)) (v := firstN (d, l, ps, ks, bs)) ?_); rw [firstN, if_neg (show ¬ d = 0 by omega), if_neg (show ¬ 0 < ps.length by omega)]; done)
    | skip
def sameN (a b : Nod) : Bool := decide (a.1 = b.1 ∧ a.2.1 = b.2.1 ∧ a.2.2 = b.2.2)
theorem sameN_iff {a b : Nod} : sameN a b = true ↔ a = b := by
  rw [sameN, decide_eq_true_iff]
  obtain ⟨x, y, z⟩ := a; obtain ⟨u, v, w⟩ := b
  constructor
  · rintro ⟨h1, h2, h3⟩; dsimp only at h1 h2 h3; rw [h1, h2, h3]
  · intro h; cases h; exact ⟨rfl, rfl, rfl⟩
def sNSame : PSpec := ⟨[.d NdT, .d NdT], [⟨false, [.d .bool]⟩], fun x => NPre x.1, fun x => ((sameN x.1 x.2.1, ()), ())⟩
theorem sameN_no {a b : Nod} (h : ¬ a = b) : false = sameN a b := by
  cases e : sameN a b
  · rfl
  · exact absurd (sameN_iff.1 e) h
theorem sameN_i {a b : Nod} (h1 : a.1 = b.1) (h2 : a.2.1 = b.2.1) : sameI a.2.2 b.2.2 = sameN a b := by
  apply Bool.eq_iff_iff.2
  rw [sameI, sameN, decide_eq_true_iff, decide_eq_true_iff]
  exact ⟨fun h => ⟨h1, h2, h⟩, fun h => h.2.2⟩
theorem fNSame : FnOk Try.prog 25 := ⟨_, Try.func25, by decide, rfl⟩
theorem pNSame : PSound Try.prog 25 sNSame := by
  refine psound (T := tab) (S := (spOf [(44, sLSame.spec (lsOf [])), (45, sISame.spec (lsOf []))])) (keep := k25) (by kernel_rfl) tabOk (spCons (pOk pLSame fLSame (by decide) lsNil) (spCons (pOk pISame fISame (by decide) lsNil) spNil)) (by kernel_rfl) Try.func25 (by kernel_rfl) (by decide) fun xs hg hp => ?_
  obtain ⟨⟨d, l, ps, ks, bs⟩, ⟨d1, l1, ps1, ks1, bs1⟩, ⟨⟩⟩ := xs
  clear hg
  change Int at d d1
  change List Stk at l l1
  change List (List UInt8) at ps ps1
  change List Int at ks ks1
  change List (List Msg) at bs bs1
  change NPre (d, l, ps, ks, bs) at hp
  have hpl := hp.l
  have hpk := hp.i.k
  have hpb := hp.i.b
  dsimp only at hpl hpk hpb
  show vfun tab _ k25 Try.f25 [.agg [.i .i64 d, .sl StT l, .sl .str ps, .sl (.int .i64) ks, .sl (.slice MsgT) bs], .agg [.i .i64 d1, .sl StT l1, .sl .str ps1, .sl (.int .i64) ks1, .sl (.slice MsgT) bs1]] [] _
  refine Ev.out ?_
  repeat' (first | ((with_reducible refine Ev.mk ?_); conv => whnf) | (with_reducible refine And.intro ?_ ?_) | (intro h))
  all_goals (try simp only [decide_eq_true_eq, decide_eq_false_iff_not, beq_iff_eq, bne_iff_ne, beq_eq_false_iff_ne, bne_eq_false_iff_eq, Int.toNat_natCast, ge_iff_le, gt_iff_lt, Bool.not_eq_true', Bool.not_eq_false', Int.not_lt, Int.not_le, ne_eq] at *)
  all_goals (try dsimp only [Ty.den, Ty.dflt, NdT, SsT, InT, sLSame, sISame] at *)
  all_goals (try simp only [eq4, ne4, eq3, ne3, eq2, ne2, Prod.eta, List.length_cons, List.length_nil, List.length_append, Nat.zero_add] at *)
  all_goals (try simp (disch := omega) only [wrap64] at *)
  all_goals try first | exact leafDraw (by kernel_rfl) | exact Leaf.mk trivial | (refine Leaf.mk ?_; omega) | (refine Leaf.mk ?_; unfold maxLen; omega)
  all_goals first
    | exact Leaf.mk (show l.length ≤ 100000 by omega)
    | exact Leaf.mk (show ks.length ≤ 100000 ∧ bs.length ≤ 100000 by omega)
    | (refine Leaf.mk (ret1 (show sameI (ps, ks, bs) (ps1, ks1, bs1) = sameN (d, l, ps, ks, bs) (d1, l1, ps1, ks1, bs1) from ?_)); exact sameN_i (a := (d, l, ps, ks, bs)) (b := (d1, l1, ps1, ks1, bs1)) ‹d = d1› (of_decide_eq_true (show decide (l = l1) = true from ‹_›)))
    | (refine Leaf.mk (ret1 (show false = sameN (d, l, ps, ks, bs) (d1, l1, ps1, ks1, bs1) from sameN_no fun h9 => ?_)); exact of_decide_eq_false (show decide (l = l1) = false from ‹_›) (congrArg (·.2.1) h9))
    | (refine Leaf.mk (ret1 (show false = sameN (d, l, ps, ks, bs) (d1, l1, ps1, ks1, bs1) from sameN_no fun h9 => ?_)); exact ‹¬ d = d1› (congrArg (·.1) h9))
    | skip
def lightI (n : Inn) : Bool := decide (n.1.length ≤ 10 ∧ n.2.1.length ≤ 10 ∧ n.2.2.length ≤ 10) && (n.1.all (fun p => decide (p.length ≤ 100)) && n.2.2.all (fun b => lightM b 30))
def sLightI : PSpec := ⟨[.d InT], [⟨false, [.d .bool]⟩], fun _ => True, fun x => ((lightI x.1, ()), ())⟩
theorem lightI_pre {n : Inn} (h : lightI n = true) : IPre n ∧ ∀ b ∈ n.2.2, b.length ≤ 30 := by
  simp only [lightI, Bool.and_eq_true, decide_eq_true_eq, List.all_eq_true] at h
  obtain ⟨⟨h1, h2, h3⟩, h4, h5⟩ := h
  have hb : ∀ b ∈ n.2.2, b.length ≤ 30 := fun b hb => by
    have := h5 b hb
    unfold lightM at this
    rw [Bool.and_eq_true, decide_eq_true_eq] at this
    omega
  have hf : n.2.2.flatten.length ≤ n.2.2.length * 30 := by
    have := flat_len2 (f := id) (m := 30) (l := n.2.2) hb
    rwa [List.flatMap_id] at this
  exact ⟨⟨by omega, fun p hp => by have := h4 p hp; omega, by omega, by omega, by omega⟩, hb⟩
theorem lightI_no {n : Inn} (h : (¬ (n.1.length ≤ 10 ∧ n.2.1.length ≤ 10 ∧ n.2.2.length ≤ 10)) ∨ (∃ i, i < n.1.length ∧ ¬ (n.1.getD i []).length ≤ 100) ∨ ∃ i, i < n.2.2.length ∧ lightM (n.2.2.getD i []) 30 = false) : lightI n = false := by
  apply Bool.eq_false_iff.2
  intro hc
  simp only [lightI, Bool.and_eq_true, decide_eq_true_eq, List.all_eq_true] at hc
  rcases h with h | ⟨i, hi, h⟩ | ⟨i, hi, h⟩
  · exact h hc.1
  · exact h (hc.2.1 _ (getD_mem (xs := n.1) [] hi))
  · rw [hc.2.2 _ (getD_mem (xs := n.2.2) [] hi)] at h; cases h
theorem all_getD {α : Type} {p : α → Bool} {l : List α} (d : α) (h : ∀ i, i < l.length → p (l.getD i d) = true) : l.all p = true := by
  rw [List.all_eq_true]
  intro x hx
  obtain ⟨i, hi, rfl⟩ := List.mem_iff_getElem.1 hx
  have := h i hi
  rwa [List.getD_eq_getElem?_getD, List.getElem?_eq_getElem hi] at this
theorem lightI_yes {n : Inn} (h : n.1.length ≤ 10 ∧ n.2.1.length ≤ 10 ∧ n.2.2.length ≤ 10) (h1 : ∀ i, i < n.1.length → (n.1.getD i []).length ≤ 100) (h2 : ∀ i, i < n.2.2.length → lightM (n.2.2.getD i []) 30 = true) : lightI n = true := by
  rw [lightI, decide_eq_true h, all_getD [] (fun i hi => decide_eq_true (h1 i hi)), all_getD [] h2]; rfl
theorem fLightI : FnOk Try.prog 42 := ⟨_, Try.func42, by decide, rfl⟩
theorem pLightI : PSound Try.prog 42 sLightI := by
  refine psound (T := tab) (S := (spOf [(31, sLightM.spec (lsOf []))])) (keep := k42) (by kernel_rfl) tabOk (spCons (pOk pLightM fLightM (by decide) lsNil) spNil) (by kernel_rfl) Try.func42 (by kernel_rfl) (by decide) fun xs hg hp => ?_
  obtain ⟨⟨ps, ks, bs⟩, ⟨⟩⟩ := xs
  obtain ⟨⟨⟨hlp, -⟩, -, ⟨hlb, -⟩⟩, -⟩ := hg
  change List (List UInt8) at ps
  change List Int at ks
  change List (List Msg) at bs
  have hlp := len63 hlp
  have hlb := len63 hlb
  clear hp
  show vfun tab _ k42 Try.f42 [.agg [.sl .str ps, .sl (.int .i64) ks, .sl (.slice MsgT) bs]] [] _
  refine Ev.out ?_
  repeat' (first | ((with_reducible refine Ev.mk ?_); conv => whnf) | (with_reducible refine And.intro ?_ ?_) | (intro h))
  all_goals (try simp only [decide_eq_true_eq, decide_eq_false_iff_not, beq_iff_eq, bne_iff_ne, beq_eq_false_iff_ne, bne_eq_false_iff_eq, Int.toNat_natCast, ge_iff_le, gt_iff_lt, Bool.not_eq_true', Bool.not_eq_false', Int.not_lt, Int.not_le, ne_eq] at *)
  all_goals (try dsimp only [Ty.den, Ty.dflt, InT] at *)
  all_goals (try simp only [eq4, ne4, eq3, ne3, eq2, ne2, Prod.eta, List.length_cons, List.length_nil, List.length_append, Nat.zero_add] at *)
  all_goals (try simp (disch := omega) only [wrap64] at *)
  all_goals try first | exact leafDraw (by kernel_rfl) | exact Leaf.mk trivial | (refine Leaf.mk ?_; omega) | (refine Leaf.mk ?_; unfold maxLen; omega)
  · exact Leaf.mk (ret1 (show false = lightI (ps, ks, bs) from (lightI_no (.inl (by dsimp only; omega))).symm))
  · exact Leaf.mk (ret1 (show false = lightI (ps, ks, bs) from (lightI_no (.inl (by dsimp only; omega))).symm))
  · exact Leaf.mk (ret1 (show false = lightI (ps, ks, bs) from (lightI_no (.inl (by dsimp only; omega))).symm))
  refine LoopVC.on (fun i : Nat => [(3, .i .i64 i)]) (fun _ => []) (fun i => i ≤ ps.length ∧ ∀ j, j < i → (ps.getD j []).length ≤ 100) (fun i => ps.length - i) 0 rfl ⟨by omega, fun j hj => by omega⟩ ?_
  intro i ⟨hi, ha⟩
  repeat' (first | ((with_reducible refine Ev.mk ?_); conv => whnf) | (with_reducible refine And.intro ?_ ?_) | (intro h))
  all_goals (try simp only [decide_eq_true_eq, decide_eq_false_iff_not, beq_iff_eq, bne_iff_ne, beq_eq_false_iff_ne, bne_eq_false_iff_eq, Int.toNat_natCast, ge_iff_le, gt_iff_lt, Bool.not_eq_true', Bool.not_eq_false', Int.not_lt, Int.not_le, ne_eq] at *)
  all_goals (try dsimp only [Ty.den, Ty.dflt, InT] at *)
  all_goals (try simp only [eq4, ne4, eq3, ne3, eq2, ne2, Prod.eta, List.length_cons, List.length_nil, List.length_append, Nat.zero_add] at *)
  all_goals (try simp (disch := omega) only [wrap64] at *)
  all_goals try first | exact leafDraw (by kernel_rfl) | exact Leaf.mk trivial | (refine Leaf.mk ?_; omega) | (refine Leaf.mk ?_; unfold maxLen; omega)
  · refine Leaf.mk (ret1 (show false = lightI (ps, ks, bs) from (lightI_no (.inr (.inl ⟨i, by dsimp only; omega, ?_⟩))).symm)); dsimp only; omega
  · refine Leaf.mk ⟨i + 1, rfl, ⟨by omega, fun j hj => ?_⟩, by omega⟩
    rcases Nat.lt_or_ge j i with hji | hji
    · exact ha j hji
    · obtain rfl : j = i := by omega
      omega
  refine LoopVC.on (fun i : Nat => [(4, .i .i64 i)]) (fun _ => []) (fun i => i ≤ bs.length ∧ ∀ j, j < i → lightM (bs.getD j []) 30 = true) (fun i => bs.length - i) 0 rfl ⟨by omega, fun j hj => by omega⟩ ?_
  intro k ⟨hk, hb⟩
  repeat' (first | ((with_reducible refine Ev.mk ?_); conv => whnf) | (with_reducible refine And.intro ?_ ?_) | (intro h))
  all_goals (try simp only [decide_eq_true_eq, decide_eq_false_iff_not, beq_iff_eq, bne_iff_ne, beq_eq_false_iff_ne, bne_eq_false_iff_eq, Int.toNat_natCast, ge_iff_le, gt_iff_lt, Bool.not_eq_true', Bool.not_eq_false', Int.not_lt, Int.not_le, ne_eq] at *)
  all_goals (try dsimp only [Ty.den, Ty.dflt, InT, sLightM] at *)
  all_goals (try simp only [eq4, ne4, eq3, ne3, eq2, ne2, Prod.eta, List.length_cons, List.length_nil, List.length_append, Nat.zero_add] at *)
  all_goals (try simp (disch := omega) only [wrap64] at *)
  all_goals try first | exact leafDraw (by kernel_rfl) | exact Leaf.mk trivial | (refine Leaf.mk ?_; omega) | (refine Leaf.mk ?_; unfold maxLen; omega)
  · exact Leaf.mk (ret1 (show false = lightI (ps, ks, bs) from (lightI_no (.inr (.inr ⟨k, by dsimp only; omega, ‹_›⟩))).symm))
  · refine Leaf.mk ⟨k + 1, rfl, ⟨by omega, fun j hj => ?_⟩, by omega⟩
    rcases Nat.lt_or_ge j k with hji | hji
    · exact hb j hji
    · obtain rfl : j = k := by omega
      assumption
  · refine Leaf.mk (ret1 (show true = lightI (ps, ks, bs) from (lightI_yes ⟨by dsimp only; omega, by dsimp only; omega, by dsimp only; omega⟩ (fun j hj => ha j (by dsimp only at hj; omega)) (fun j hj => hb j (by dsimp only at hj; omega))).symm))
def lightN (n : Nod) : Bool := lightL n.2.1 12 && lightI n.2.2
def sLightN : PSpec := ⟨[.d NdT], [⟨false, [.d .bool]⟩], fun _ => True, fun x => ((lightN x.1, ()), ())⟩
theorem lightN_pre {n : Nod} (h : lightN n = true) : NPre n ∧ n.2.1.length ≤ 12 ∧ n.2.2.2.2.length ≤ 20 ∧ n.2.2.1.length ≤ 20 ∧ n.2.2.2.1.length ≤ 20 ∧ ∀ b ∈ n.2.2.2.2, b.length ≤ 30 := by
  rw [lightN, Bool.and_eq_true] at h
  have h1 : (n.2.1.length : Int) ≤ 12 := by
    have := h.1
    unfold lightL at this
    rw [Bool.and_eq_true, decide_eq_true_eq] at this
    exact this.1
  have h2 := lightI_pre h.2
  have h3 := h2.1
  exact ⟨⟨by omega, h3⟩, by omega, h3.b, h3.p, h3.k, h2.2⟩
theorem fLightN : FnOk Try.prog 19 := ⟨_, Try.func19, by decide, rfl⟩
theorem pLightN : PSound Try.prog 19 sLightN := by
  refine psound (T := tab) (S := (spOf [(7, sLight14.spec (lsOf [])), (42, sLightI.spec (lsOf []))])) (keep := k19) (by kernel_rfl) tabOk (spCons (pOk pLight14 fLight14 (by decide) lsNil) (spCons (pOk pLightI fLightI (by decide) lsNil) spNil)) (by kernel_rfl) Try.func19 (by kernel_rfl) (by decide) fun xs hg hp => ?_
  obtain ⟨⟨d, l, ps, ks, bs⟩, ⟨⟩⟩ := xs
  clear hg hp
  change Int at d
  change List Stk at l
  change List (List UInt8) at ps
  change List Int at ks
  change List (List Msg) at bs
  show vfun tab _ k19 Try.f19 [.agg [.i .i64 d, .sl StT l, .sl .str ps, .sl (.int .i64) ks, .sl (.slice MsgT) bs]] [] _
  refine Ev.out ?_
  repeat' (first | ((with_reducible refine Ev.mk ?_); conv => whnf) | (with_reducible refine And.intro ?_ ?_) | (intro h))
  all_goals (try simp only [decide_eq_true_eq, decide_eq_false_iff_not, beq_iff_eq, bne_iff_ne, beq_eq_false_iff_ne, bne_eq_false_iff_eq, Int.toNat_natCast, ge_iff_le, gt_iff_lt, Bool.not_eq_true', Bool.not_eq_false', Int.not_lt, Int.not_le, ne_eq] at *)
  all_goals (try dsimp only [Ty.den, Ty.dflt, NdT, InT, SsT, sLight14, sLightI] at *)
  all_goals (try simp only [eq4, ne4, eq3, ne3, eq2, ne2, Prod.eta, List.length_cons, List.length_nil, List.length_append, Nat.zero_add] at *)
  all_goals (try simp (disch := omega) only [wrap64] at *)
  all_goals try first | exact leafDraw (by kernel_rfl) | exact Leaf.mk trivial | (refine Leaf.mk ?_; omega) | (refine Leaf.mk ?_; unfold maxLen; omega)
  · refine Leaf.mk (ret1 (show lightI (ps, ks, bs) = lightN (d, l, ps, ks, bs) from ?_))
    rw [lightN, show lightL l 12 = true from ‹_›, Bool.true_and]
  · refine Leaf.mk (ret1 (show false = lightN (d, l, ps, ks, bs) from ?_))
    rw [lightN, show lightL l 12 = false from ‹_›, Bool.false_and]
def sOwnN : PSpec := ⟨[.d NdT], [⟨true, [.d NdT]⟩], fun x => NPre x.1 ∧ ∀ b ∈ x.1.2.2.2.2, List.length b ≤ 1000, fun x => ((x.1, ()), ())⟩
theorem fOwnN : FnOk Try.prog 21 := ⟨_, Try.func21, by decide, rfl⟩
theorem pOwnN : PSound Try.prog 21 sOwnN := by
  refine psound (T := tab) (S := (spOf [])) (keep := k21) (by kernel_rfl) tabOk spNil (by kernel_rfl) Try.func21 (by kernel_rfl) (by decide) fun xs hg hp => ?_
  obtain ⟨⟨d, l, ps, ks, bs⟩, ⟨⟩⟩ := xs
  clear hg
  change Int at d
  change List Stk at l
  change List (List UInt8) at ps
  change List Int at ks
  change List (List Msg) at bs
  change NPre (d, l, ps, ks, bs) ∧ ∀ b ∈ bs, List.length b ≤ 1000 at hp
  obtain ⟨hp, hbm⟩ := hp
  have hpl := hp.l
  have hpp := hp.i.p
  have hpk := hp.i.k
  have hpb := hp.i.b
  dsimp only at hpl hpp hpk hpb
  show vfun tab _ k21 Try.f21 [.agg [.i .i64 d, .sl StT l, .sl .str ps, .sl (.int .i64) ks, .sl (.slice MsgT) bs]] [] _
  refine Ev.out ?_
  repeat' (first | ((with_reducible refine Ev.mk ?_); conv => whnf) | (with_reducible refine And.intro ?_ ?_) | (intro h))
  all_goals (try simp only [decide_eq_true_eq, decide_eq_false_iff_not, beq_iff_eq, bne_iff_ne, beq_eq_false_iff_ne, bne_eq_false_iff_eq, Int.toNat_natCast, ge_iff_le, gt_iff_lt, Bool.not_eq_true', Bool.not_eq_false', Int.not_lt, Int.not_le, ne_eq] at *)
  all_goals (try dsimp only [Ty.den, Ty.dflt, NdT, InT, SsT] at *)
  all_goals (try simp only [eq4, ne4, eq3, ne3, eq2, ne2, Prod.eta, List.length_cons, List.length_nil, List.length_append, Nat.zero_add] at *)
  all_goals (try simp (disch := omega) only [wrap64] at *)
  all_goals try first | exact leafDraw (by kernel_rfl) | exact Leaf.mk trivial | (refine Leaf.mk ?_; omega) | (refine Leaf.mk ?_; unfold maxLen; omega)
  refine LoopVC.weak [(.cell 2 4, .nil 37 (.slice MsgT))] (fun i : Nat => [(4, .i .i64 i)]) (fun i => [(6, .arr 37 (.slice MsgT) (bs.take i))]) (fun i => i ≤ bs.length) (fun i => bs.length - i) 0 (Ev.mk ?_)
  (conv => whnf)
  refine ⟨Leaf.mk ?_, Leaf.mk ?_, ?_⟩
  · rfl
  · omega
  intro i hi
  have hbi := fun h => hbm _ (getD_mem (xs := bs) [] (show i < bs.length from h))
  repeat' (first | ((with_reducible refine Ev.mk ?_); conv => whnf) | (with_reducible refine And.intro ?_ ?_) | (intro h))
  all_goals (try simp only [decide_eq_true_eq, decide_eq_false_iff_not, beq_iff_eq, bne_iff_ne, beq_eq_false_iff_ne, bne_eq_false_iff_eq, Int.toNat_natCast, ge_iff_le, gt_iff_lt, Bool.not_eq_true', Bool.not_eq_false', Int.not_lt, Int.not_le, ne_eq] at *)
  all_goals (try dsimp only [Ty.den, Ty.dflt, NdT, InT, SsT] at *)
  all_goals (try simp only [eq4, ne4, eq3, ne3, eq2, ne2, Prod.eta, List.length_cons, List.length_nil, List.length_append, Nat.zero_add] at *)
  all_goals (try simp (disch := omega) only [wrap64] at *)
  all_goals try first | exact leafDraw (by kernel_rfl) | exact Leaf.mk trivial | (refine Leaf.mk ?_; omega) | (refine Leaf.mk ?_; unfold maxLen; omega)
  all_goals have htl : (bs.take i).length = i := by rw [List.length_take]; omega
  all_goals first
    | (refine Leaf.mk ?_; have := hbi (by omega); omega)
    | (refine Leaf.mk ?_; have := hbi (by omega); unfold maxLen; omega)
    | (refine Leaf.mk ?_; omega)
    | (refine Leaf.mk ?_; unfold maxLen; omega)
    | (refine Leaf.mk (Exists.intro (i + 1) ⟨?_, by omega, by omega⟩)
       rw [take_at [] (show i < bs.length by omega)]; rfl)
    | (have hbt : bs.take i = bs := List.take_of_length_le (by omega)
       refine Leaf.mk (ret1 (show ((d, [] ++ l, ps, ks, bs.take i) : Nod) = (d, l, ps, ks, bs) from ?_))
       rw [hbt, List.nil_append])
    | skip
theorem ipre_iff {n : Inn} : IPre n ↔ n.1.length ≤ 20 ∧ (∀ p ∈ n.1, p.length ≤ 1000) ∧ n.2.1.length ≤ 20 ∧ n.2.2.length ≤ 20 ∧ n.2.2.flatten.length ≤ 5000 := ⟨fun h => ⟨h.p, h.pt, h.k, h.b, h.m⟩, fun h => ⟨h.1, h.2.1, h.2.2.1, h.2.2.2.1, h.2.2.2.2⟩⟩
instance decIPre (n : Inn) : Decidable (IPre n) := decidable_of_iff _ ipre_iff.symm
theorem npre_iff {n : Nod} : NPre n ↔ n.2.1.length ≤ 100000 ∧ IPre n.2.2 := ⟨fun h => ⟨h.l, h.i⟩, fun h => ⟨h.1, h.2⟩⟩
instance decNPre (n : Nod) : Decidable (NPre n) := decidable_of_iff _ npre_iff.symm
def sAwake16 : PSpec := ⟨[], [⟨false, [.d .bool]⟩], fun _ => True, fun _ => ((true, ()), ())⟩
theorem fAwake16 : FnOk Try.prog 20 := ⟨_, Try.func20, by decide, rfl⟩
theorem pAwake16 : PSound Try.prog 20 sAwake16 := by
  refine psound (T := tab) (S := (spOf [(28, sNPut.spec (lsOf [])), (29, sNGet.spec (lsOf [])), (22, sNKids.spec (lsOf [])), (23, sNFirst.spec (lsOf [])), (30, sNSize.spec (lsOf [])), (25, sNSame.spec (lsOf [])), (27, sNCheck.spec (lsOf []))])) (keep := k20) (by kernel_rfl) tabOk (spCons (pOk pNPut fNPut (by decide) lsNil) (spCons (pOk pNGet fNGet (by decide) lsNil) (spCons (pOk pNKids fNKids (by decide) lsNil) (spCons (pOk pNFirst fNFirst (by decide) lsNil) (spCons (pOk pNSize fNSize (by decide) lsNil) (spCons (pOk pNSame fNSame (by decide) lsNil) (spCons (pOk pNCheck fNCheck (by decide) lsNil) spNil))))))) (by kernel_rfl) Try.func20 (by kernel_rfl) (by decide) fun xs hg hp => ?_
  obtain ⟨⟩ := xs
  show vfun tab _ k20 Try.f20 [] [] _
  refine Ev.out ?_
  repeat' (first | ((with_reducible refine Ev.mk ?_); conv => whnf) | (with_reducible refine And.intro ?_ ?_) | (intro h; first | exact absurd h (by decide +kernel) | skip))
  all_goals first
    | exact Leaf.mk trivial
    | exact leafDraw (by kernel_rfl)
    | (refine Leaf.mk ?_; change NPre _; decide +kernel)
    | (refine Leaf.mk ?_; change (_ : Nat) ≤ _; decide +kernel)
    | (refine Leaf.mk ?_; decide +kernel)
    | exact Leaf.mk rfl
    | skip
end Go.Proofs.Ytkmfjlfejdoehaa

set_option linter.unusedVariables false
set_option linter.unusedSimpArgs false
set_option maxHeartbeats 1000000
namespace Go.Proofs.Ytkmfjlfejdoehaa
open Go.Eng
theorem rdL_more : ∀ (l : List Stk) (r : List Int), (∀ s ∈ l, check s = 0) → rdL l.length (l.flatMap one ++ r) = l
  | [], r, _ => rfl
  | s :: l, r, h => by
    have hc := h s List.mem_cons_self
    have ih := rdL_more l r fun x hx => h x (List.mem_cons_of_mem _ hx)
    rw [List.flatMap_cons, List.append_assoc, List.length_cons, rdL, rdSmall_one hc]
    dsimp only
    rw [Int.toNat_natCast, List.take_left' rfl, List.drop_left' rfl, getS_put hc rfl, ih]
theorem layF_more {l l' : List Stk} {r : List Int} (h : checkL l = 0) (h' : checkL l' = 0) (he : layF l' = layF l ++ r) : l' = l := by
  have h1 := rd_lay h'
  rw [he, layF, List.append_assoc, rdSmall_put (Int.natCast_nonneg _) (by have := layF_ge l; have := checkL_sz h; omega)] at h1
  have e1 : l.length = l'.length := by have := congrArg (·.1) h1; dsimp only at this; omega
  have e2 : l.flatMap one ++ r = l'.flatMap one := congrArg (·.2.1) h1
  have h2 := rdL_put l' (leafOk h').all
  rw [← e2, ← e1, rdL_more l r (leafOk h).all] at h2
  exact h2.symm
theorem rdKs_more : ∀ (ks : List Int) (bs : List (List Msg)) (r : List Int), bs.length = ks.length → (∀ k ∈ ks, 0 ≤ k ∧ k ≤ 1099511627776) → (∀ b ∈ bs, b.length ≤ 1099511627776 ∧ ∀ m ∈ b, mcheck m = 0 ∧ 0 ≤ m.1) → rdKs ks.length (kfrom ks bs ++ r) = (ks, bs)
  | [], [], r, _, _, _ => rfl
  | k :: ks, b :: bs, r, h, hk, hb => by
    obtain ⟨h1, h2⟩ := hk k List.mem_cons_self
    obtain ⟨h3, h4⟩ := hb b List.mem_cons_self
    have ih := rdKs_more ks bs r (by simpa using h) (fun x hx => hk x (List.mem_cons_of_mem _ hx)) fun x hx => hb x (List.mem_cons_of_mem _ hx)
    rw [List.length_cons, kfrom, kb, max0_ok h1, List.append_assoc, List.append_assoc, List.append_assoc, rdKs, rdSmall_put h1 h2]
    dsimp only
    rw [rdSmall_put (Int.natCast_nonneg _) (by omega)]
    dsimp only
    rw [Int.toNat_natCast, rdMs_put b _ h4]
    dsimp only
    rw [ih]
theorem readI_more {n : Inn} (h : checkI n = 0) (h0 : nnI n) (r : List Int) : readI (layI n ++ r) = n := by
  have v := valI h
  have hr := rdKs_more n.2.1 n.2.2 r v.w1 v.ks fun b hb => ⟨by have := v.bl hb; omega, fun m hm => ⟨v.ms b hb m hm, h0 b hb m hm⟩⟩
  have hp := rdPs_put n.1 (kfrom n.2.1 n.2.2 ++ r) v.ps
  have h1 := v.k6
  have h2 := v.w2
  rw [layI_eq v.w1, readI, List.append_assoc, List.append_assoc, rdSmall_put (Int.natCast_nonneg _) (by omega)]
  dsimp only
  rw [Int.toNat_natCast, Nat.min_eq_left h1, show n.2.1.length - 1 = n.1.length by omega, hp]
  dsimp only
  rw [hr]
theorem len_nil {α : Type} {l : List α} (h : l.length = 0) : l = [] := List.eq_nil_of_length_eq_zero h
theorem OkN.shape {n : Nod} (h : OkN n) : (n.1 = 0 ∧ n = (0, n.2.1, inn0)) ∨ (¬ n.1 = 0 ∧ n = (n.1, [], n.2.2)) := by
  have he := h.e
  obtain ⟨d, l, ps, ks, bs⟩ := n
  by_cases h0 : d = 0
  · rw [emptyN_i h0, decide_eq_true_iff] at he
    dsimp only at he
    refine .inl ⟨h0, ?_⟩
    dsimp only
    rw [h0, len_nil he.1, len_nil he.2.1, len_nil he.2.2]
  · rw [emptyN_l h0, decide_eq_true_iff] at he
    dsimp only at he
    exact .inr ⟨h0, by dsimp only; rw [len_nil he]⟩
theorem getN_put {n : Nod} (h : checkN n = 0) (hn : nnI n.2.2) : getN (layN n) = (n, 0) := by
  have ok := okN h
  rcases ok.shape with ⟨h0, hs⟩ | ⟨h0, hs⟩
  · obtain ⟨q1, _, _⟩ := ok.leaf h0
    have hg := getL_put q1 rfl
    have hr : readN 0 (layF n.2.1) = n := by rw [readN, if_pos rfl, hg, ← hs]
    rw [layN, if_pos h0, h0, getN_yes (by rw [errN, if_pos rfl, hg]) (by rw [hr]; exact h), hr]
  · obtain ⟨q1, _, _⟩ := ok.inner h0
    have hg := getI_put q1 hn rfl
    have hr : readN n.1 (layI n.2.2) = n := by rw [readN, if_neg h0, hg, ← hs]
    rw [layN, if_neg h0, getN_yes (by rw [errN, if_neg h0, hg]) (by rw [hr]; exact h), hr]
theorem getN_more {n : Nod} (h : checkN n = 0) (hn : nnI n.2.2) : getN (layN n ++ [0]) = (nod0, 4) := by
  have ok := okN h
  rw [layN, List.cons_append]
  refine getN_no fun he _ => ?_
  by_cases h0 : n.1 = 0
  · obtain ⟨q1, _, _⟩ := ok.leaf h0
    rw [if_pos h0, errN, if_pos h0] at he
    rcases getL_cases (layF n.2.1 ++ [0]) with h1 | ⟨h1, h2, h3⟩
    · rw [h1] at he; exact absurd he (by decide)
    · have := layF_more q1 h1 h2
      rw [this] at h2
      have := congrArg List.length h2
      simp at this
  · obtain ⟨q1, _, _⟩ := ok.inner h0
    rw [if_neg h0, errN, if_neg h0] at he
    rcases getI_cases (layI n.2.2 ++ [0]) with h1 | ⟨h1, h2, h3, h4⟩
    · rw [h1] at he; exact absurd he (by decide)
    · have h5 := readI_put h1 h2
      rw [h3, readI_more q1 hn] at h5
      rw [← h5] at h3
      have := congrArg List.length h3
      simp at this
theorem layN_inj {a b : Nod} (ha : checkN a = 0) (hb : checkN b = 0) (hna : nnI a.2.2) (hnb : nnI b.2.2) : strOfBytes (layN a) = strOfBytes (layN b) ↔ a = b := by
  constructor
  · intro h
    have h1 := str_inj (isB_layN ha hna) (isB_layN hb hnb) h
    have h2 := getN_put ha hna
    rw [h1, getN_put hb hnb] at h2
    exact (congrArg (·.1) h2).symm
  · rintro rfl; rfl
theorem layN_len {n : Nod} (h : checkN n = 0) : ((layN n).length : Int) = sizeN n ∧ (layN n).length ≤ 1016 := by
  have ok := okN h
  have hs := ok.s
  have : ((layN n).length : Int) = sizeN n := by
    rw [layN, List.length_cons, sizeN]
    split
    · rename_i h0; rw [sizeF]; omega
    · rename_i h0
      rw [sizeI, if_pos (checkI_whole (ok.inner h0).1)]; omega
  exact ⟨this, by omega⟩
end Go.Proofs.Ytkmfjlfejdoehaa

set_option linter.unusedVariables false
set_option linter.unusedSimpArgs false
set_option maxRecDepth 8000
set_option maxHeartbeats 4000000
namespace Go.Proofs.Ytkmfjlfejdoehaa
open Go.Eng
theorem sameN_self {a : Nod} {P : Prop} (h : sameN a a = false) : P := absurd (sameN_iff.2 rfl) (by rw [h]; simp)
def sNodeBack : PSpec := lawSpec [NdT, NdT]
theorem pNodeBack : PSound Try.prog 6 sNodeBack := by
  refine psound (T := tab) (S := (spOf [(19, sLightN.spec (lsOf [])), (20, sAwake16.spec (lsOf [])), (21, sOwnN.spec (lsOf [])), (27, sNCheck.spec (lsOf [])), (28, sNPut.spec (lsOf [])), (29, sNGet.spec (lsOf [])), (25, sNSame.spec (lsOf [])), (30, sNSize.spec (lsOf []))])) (keep := k6) (by kernel_rfl) tabOk (spCons (pOk pLightN fLightN (by decide) lsNil) (spCons (pOk pAwake16 fAwake16 (by decide) lsNil) (spCons (pOk pOwnN fOwnN (by decide) lsNil) (spCons (pOk pNCheck fNCheck (by decide) lsNil) (spCons (pOk pNPut fNPut (by decide) lsNil) (spCons (pOk pNGet fNGet (by decide) lsNil) (spCons (pOk pNSame fNSame (by decide) lsNil) (spCons (pOk pNSize fNSize (by decide) lsNil) spNil)))))))) (by kernel_rfl) Try.func6 (by kernel_rfl) (by decide) fun xs hg hp => ?_
  obtain ⟨⟨d, l, ps, ks, bs⟩, ⟨d1, l1, ps1, ks1, bs1⟩, ⟨⟩⟩ := xs
  clear hp
  obtain ⟨⟨-, -, -, -, ⟨-, hgb⟩⟩, ⟨-, -, -, -, ⟨-, hgb1⟩⟩, -⟩ := hg
  change Int at d d1
  change List Stk at l l1
  change List (List UInt8) at ps ps1
  change List Int at ks ks1
  change List (List Msg) at bs bs1
  have hnn : nnI (ps, ks, bs) := fun b hb m hm => (bdu8 ((hgb b hb).2 m hm).1).1
  have hnn1 : nnI (ps1, ks1, bs1) := fun b hb m hm => (bdu8 ((hgb1 b hb).2 m hm).1).1
  clear hgb hgb1
  show vfun tab _ k6 Try.f6 [.agg [.i .i64 d, .sl StT l, .sl .str ps, .sl (.int .i64) ks, .sl (.slice MsgT) bs], .agg [.i .i64 d1, .sl StT l1, .sl .str ps1, .sl (.int .i64) ks1, .sl (.slice MsgT) bs1]] [] _
  refine Ev.out ?_
  repeat' (first | ((with_reducible refine Ev.mk ?_); conv => whnf) | (with_reducible refine And.intro ?_ ?_) | (intro h))
  all_goals (try simp only [decide_eq_true_eq, decide_eq_false_iff_not, beq_iff_eq, bne_iff_ne, beq_eq_false_iff_ne, bne_eq_false_iff_eq, Int.toNat_natCast, ge_iff_le, gt_iff_lt, Bool.not_eq_true', Bool.not_eq_false', Int.not_lt, Int.not_le, ne_eq] at *)
  all_goals (try dsimp only [Ty.den, Ty.dflt, NdT, InT, SsT, sLightN, sOwnN, sNCheck, sNPut, sNGet, sNSame, sNSize] at *)
  all_goals (try simp only [eq4, ne4, eq3, ne3, eq2, ne2, Prod.eta, List.length_cons, List.length_nil, List.length_append, Nat.zero_add] at *)
  all_goals (try simp (disch := omega) only [wrap64] at *)
  all_goals try first | exact leafDraw (by kernel_rfl) | exact Leaf.mk trivial | (refine Leaf.mk ?_; omega) | (refine Leaf.mk ?_; unfold maxLen; omega)
  all_goals first
    | exact Leaf.mk trivial
    | exact Leaf.mk rfl
    | exact absurd rfl h
    | skip
  all_goals
    have hL := lightN_pre ‹lightN (d, l, ps, ks, bs) = true›
    have hL1 := lightN_pre ‹lightN (d1, l1, ps1, ks1, bs1) = true›
    have hN := hL.1
    have hO := hL.2.2.2.2.2
    have hN1 := hL1.1
    have hO1 := hL1.2.2.2.2.2
    dsimp only at hO hO1
  all_goals try first
    | exact Leaf.mk (show NPre (d, l, ps, ks, bs) from hN)
    | exact Leaf.mk (show NPre (d1, l1, ps1, ks1, bs1) from hN1)
    | exact Leaf.mk (show NPre (d, l, ps, ks, bs) ∧ ∀ b ∈ bs, b.length ≤ 1000 from ⟨hN, fun b hb => by have := hO b hb; omega⟩)
    | exact Leaf.mk (show NPre (d1, l1, ps1, ks1, bs1) ∧ ∀ b ∈ bs1, b.length ≤ 1000 from ⟨hN1, fun b hb => by have := hO1 b hb; omega⟩)
  all_goals
    have hc : checkN (d, l, ps, ks, bs) = 0 := by assumption
    have hc1 : checkN (d1, l1, ps1, ks1, bs1) = 0 := by assumption
    have hp : putN (d, l, ps, ks, bs) = (layN (d, l, ps, ks, bs), 0) := by rw [putN, if_pos hc]
    have hp1 : putN (d1, l1, ps1, ks1, bs1) = (layN (d1, l1, ps1, ks1, bs1), 0) := by rw [putN, if_pos hc1]
    have hg := getN_put hc hnn
    have hm := getN_more hc hnn
    have hj := layN_inj hc hc1 hnn hnn1
    have hz := layN_len hc
    simp only [hp, hp1, hg, hm, List.nil_append] at *
  all_goals first
    | (refine Leaf.mk ?_; omega)
    | (refine Leaf.mk ?_; unfold maxLen; omega)
    | exact Leaf.mk (show NPre (d, l, ps, ks, bs) from hN)
    | exact sameN_self (show sameN (d, l, ps, ks, bs) (d, l, ps, ks, bs) = false from ‹_›)
    | exact absurd trivial ‹¬ True›
    | exact absurd hz.1 ‹¬ _ = sizeN _›
    | (exfalso; omega)
    | (refine absurd ?_ ‹¬ (_ == _) = sameN _ _›
       rw [Bool.eq_iff_iff, beq_iff_eq, sameN_iff, hj])
    | skip
end Go.Proofs.Ytkmfjlfejdoehaa
