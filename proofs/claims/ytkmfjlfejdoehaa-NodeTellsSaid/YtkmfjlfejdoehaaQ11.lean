import Derived.Test.YtkmfjlfejdoehaaQ10
/- Texts, one behind the other. -/
set_option linter.unusedVariables false
set_option linter.unusedSimpArgs false
set_option maxRecDepth 8000
set_option maxHeartbeats 4000000
namespace Go.Proofs.Ytkmfjlfejdoehaa
open Go.Eng
def layN (n : Nod) : List Int := n.1 :: (if n.1 = 0 then layF n.2.1 else layI n.2.2)
def putN (n : Nod) : List Int × Int := if checkN n = 0 then (layN n, 0) else ([], checkN n)
def sNPut : PSpec := ⟨[.d NdT], [⟨false, [.o 5 (.int .u8)]⟩, ⟨false, [.d (.int .i64)]⟩], fun x => NPre x.1, fun x => (((putN x.1).1, ()), ((putN x.1).2, ()), ())⟩
structure OkN (n : Nod) : Prop where
  lo : 0 ≤ n.1
  hi : n.1 ≤ 40
  e : emptyN n = true
  i : insideN n = 0
  s : sizeN n ≤ 1016
theorem okN {n : Nod} (h : checkN n = 0) : OkN n := by
  rw [checkN] at h
  split at h
  · exact absurd h (by decide)
  rename_i h1
  split at h
  case isFalse => exact absurd h (by decide)
  rename_i h2
  split at h
  case isFalse h3 => exact absurd h h3
  rename_i h3
  split at h
  · exact absurd h (by decide)
  exact ⟨by omega, by omega, h2, h3, by omega⟩
theorem checkL_sz {l : List Stk} (h : checkL l = 0) : (layF l).length ≤ 1016 := by
  unfold checkL at h
  split at h
  · split at h
    · exact absurd h (by decide)
    · rw [sizeF] at *; omega
  · rename_i h1; exact absurd h h1
theorem OkN.leaf {n : Nod} (h : OkN n) (h0 : n.1 = 0) : checkL n.2.1 = 0 ∧ putL n.2.1 = (layF n.2.1, 0) ∧ (layF n.2.1).length ≤ 1016 := by
  have h1 := h.i
  rw [insideN, if_pos h0] at h1
  exact ⟨h1, by rw [putL, if_pos h1], checkL_sz h1⟩
theorem OkN.inner {n : Nod} (h : OkN n) (h0 : ¬ n.1 = 0) : checkI n.2.2 = 0 ∧ putI n.2.2 = (layI n.2.2, 0) ∧ (layI n.2.2).length ≤ 1016 := by
  have h1 := h.i
  rw [insideN, if_neg h0] at h1
  exact ⟨h1, by rw [putI, if_pos h1], (valI h1).sz⟩
theorem wrap8 {n : Int} (h0 : 0 ≤ n) (h1 : n ≤ 255) : IntKind.u8.wrap n = n := by rw [wrapU8]; omega
theorem fNPut : FnOk Try.prog 28 := ⟨_, Try.func28, by decide, rfl⟩
theorem pNPut : PSound Try.prog 28 sNPut := by
  refine psound (T := tab) (S := (spOf [(27, sNCheck.spec (lsOf [])), (49, iContent), (50, sLPut.spec (lsOf [])), (51, sIPut.spec (lsOf []))])) (keep := k28) (by kernel_rfl) tabOk (spCons (pOk pNCheck fNCheck (by decide) lsNil) (spCons (.inl ⟨pContent, fContent⟩) (spCons (pOk pLPut fLPut (by decide) lsNil) (spCons (pOk pIPut fIPut (by decide) lsNil) spNil)))) (by kernel_rfl) Try.func28 (by kernel_rfl) (by decide) fun xs hg hp => ?_
  obtain ⟨⟨d, l, ps, ks, bs⟩, ⟨⟩⟩ := xs
  clear hg
  change Int at d
  change List Stk at l
  change List (List UInt8) at ps
  change List Int at ks
  change List (List Msg) at bs
  change NPre (d, l, ps, ks, bs) at hp
  have hpl := hp.l
  have hpi := hp.i
  have hpp := hpi.p
  have hpk := hpi.k
  have hpb := hpi.b
  dsimp only at hpl hpi hpp hpk hpb
  show vfun tab _ k28 Try.f28 [.agg [.i .i64 d, .sl StT l, .sl .str ps, .sl (.int .i64) ks, .sl (.slice MsgT) bs]] [] _
  refine Ev.out ?_
  repeat' (first | ((with_reducible refine Ev.mk ?_); conv => whnf) | (with_reducible refine And.intro ?_ ?_) | (intro h))
  all_goals (try simp only [decide_eq_true_eq, decide_eq_false_iff_not, beq_iff_eq, bne_iff_ne, beq_eq_false_iff_ne, bne_eq_false_iff_eq, Int.toNat_natCast, ge_iff_le, gt_iff_lt, Bool.not_eq_true', Bool.not_eq_false', Int.not_lt, Int.not_le, ne_eq] at *)
  all_goals (try dsimp only [Ty.den, Ty.dflt, NdT, SsT, sNCheck, sLPut, sIPut] at *)
  all_goals (try simp only [eq4, ne4, eq3, ne3, eq2, ne2, Prod.eta, List.length_cons, List.length_nil, List.length_append, Nat.zero_add] at *)
  all_goals (try simp (disch := omega) only [wrap64] at *)
  all_goals try first | exact leafDraw (by kernel_rfl) | exact Leaf.mk trivial | (refine Leaf.mk ?_; omega) | (refine Leaf.mk ?_; unfold maxLen; omega)
  · refine Leaf.mk (retPi (u := ([], checkN (d, l, ps, ks, bs))) (v := putN (d, l, ps, ks, bs)) ?_)
    rw [putN, if_neg ‹_›]
  all_goals
    have hc : checkN (d, l, ps, ks, bs) = 0 := ‹_›
    have ok := okN hc
    have hd0 := ok.lo
    have hd1 := ok.hi
    dsimp only at hd0 hd1
  all_goals try
    have q9 := ok.leaf (show d = 0 by assumption)
    obtain ⟨q1, q2, q3⟩ := q9
    dsimp only at q1 q2 q3
    simp only [q2] at *
  all_goals try
    have q9 := ok.inner (show ¬ d = 0 by assumption)
    obtain ⟨q1, q2, q3⟩ := q9
    dsimp only at q1 q2 q3
    simp only [q2] at *
  all_goals first
    | (refine Leaf.mk ?_; omega)
    | (refine Leaf.mk ?_; unfold maxLen; omega)
    | (refine Leaf.mk (retPi (u := ([IntKind.u8.wrap d] ++ layF l, 0)) (v := putN (d, l, ps, ks, bs)) ?_)
       rw [putN, if_pos hc, layN, if_pos (show d = 0 from ‹_›), wrap8 hd0 (by omega)]; rfl)
    | (refine Leaf.mk (retPi (u := ([IntKind.u8.wrap d] ++ layI (ps, ks, bs), 0)) (v := putN (d, l, ps, ks, bs)) ?_)
       rw [putN, if_pos hc, layN, if_neg (show ¬ d = 0 from ‹_›), wrap8 hd0 (by omega)]; rfl)
    | skip
end Go.Proofs.Ytkmfjlfejdoehaa

set_option linter.unusedVariables false
set_option linter.unusedSimpArgs false
set_option maxRecDepth 8000
set_option maxHeartbeats 4000000
namespace Go.Proofs.Ytkmfjlfejdoehaa
open Go.Eng
def readN (k : Int) (q : List Int) : Nod := if k = 0 then (0, (getL q).1, inn0) else (k, [], (getI q).1)
def errN (k : Int) (q : List Int) : Int := if k = 0 then (getL q).2 else (getI q).2
def getN : List Int → Nod × Int
  | [] => (nod0, 4)
  | k :: q => if errN k q = 0 ∧ checkN (readN k q) = 0 then (readN k q, 0) else (nod0, 4)
theorem getL_cases (b : List Int) : (getL b = ([], 4)) ∨ (checkL (getL b).1 = 0 ∧ layF (getL b).1 = b ∧ (getL b).2 = 0) := by
  rw [getL]; split
  · rename_i h; exact .inr ⟨h.1, h.2, rfl⟩
  · exact .inl rfl
theorem getI_cases (b : List Int) : (getI b = (inn0, 4)) ∨ (checkI (getI b).1 = 0 ∧ nnI (getI b).1 ∧ layI (getI b).1 = b ∧ (getI b).2 = 0) := by
  rw [getI]; split
  · rename_i h; exact .inr ⟨h.1, h.2.1, h.2.2, rfl⟩
  · exact .inl rfl
theorem getN_no {k : Int} {q : List Int} (h : errN k q = 0 → ¬ checkN (readN k q) = 0) : getN (k :: q) = (nod0, 4) := by rw [getN, if_neg fun hc => h hc.1 hc.2]
theorem getN_yes {k : Int} {q : List Int} (h : errN k q = 0) (h1 : checkN (readN k q) = 0) : getN (k :: q) = (readN k q, 0) := by rw [getN, if_pos ⟨h, h1⟩]
theorem getI_pre (b : List Int) : IPre (getI b).1 := by
  rcases getI_cases b with h1 | ⟨h1, h2, h3, h4⟩
  · rw [h1]; exact ⟨by simp, fun p hp => by simp at hp, by simp, by simp, by simp⟩
  · have v := valI h1
    have := v.k6
    have := v.w1
    have := v.w2
    have h5 := kfrom_ge v.w1 v.ms
    have h6 := v.sz
    rw [layI_eq v.w1, List.length_append, List.length_append] at h6
    exact ⟨by omega, fun p hp => by have := v.ps p hp; omega, by omega, by omega, by omega⟩
theorem layF_ge (l : List Stk) : l.length ≤ (layF l).length := by
  have := len_sum l
  rw [sumN] at this
  rw [layF, List.length_append]; omega
theorem readN_pre (k : Int) (q : List Int) : NPre (readN k q) := by
  rw [readN]; split
  · refine ⟨?_, ⟨by simp, fun p hp => by simp at hp, by simp, by simp, by simp⟩⟩
    dsimp only
    rcases getL_cases q with h1 | ⟨h1, h2, h3⟩
    · rw [h1]; simp
    · have := layF_ge (getL q).1
      have := checkL_sz h1
      omega
  · exact ⟨by simp, getI_pre q⟩
def sNGet : PSpec := ⟨[.d BT], [⟨true, [.d NdT]⟩, ⟨false, [.d (.int .i64)]⟩], fun x => List.length (α := Int) x.1 ≤ 5000, fun x => (((getN x.1).1, ()), ((getN x.1).2, ()), ())⟩
theorem retGn {u v : Nod × Int} (h : u = v) : (some ((u.1, ()), (u.2, ()), ()) : Option ((Nod × Unit) × (Int × Unit) × Unit)) = some ((v.1, ()), (v.2, ()), ()) := by rw [h]
theorem fNGet : FnOk Try.prog 29 := ⟨_, Try.func29, by decide, rfl⟩
theorem pNGet : PSound Try.prog 29 sNGet := by
  refine psound (T := tab) (S := (spOf [(52, sLGet.spec (lsOf [])), (53, sIGet.spec (lsOf [])), (27, sNCheck.spec (lsOf []))])) (keep := k29) (by kernel_rfl) tabOk (spCons (pOk pLGet fLGet (by decide) lsNil) (spCons (pOk pIGet fIGet (by decide) lsNil) (spCons (pOk pNCheck fNCheck (by decide) lsNil) spNil))) (by kernel_rfl) Try.func29 (by kernel_rfl) (by decide) fun xs hg hp => ?_
  obtain ⟨b, ⟨⟩⟩ := xs
  obtain ⟨⟨-, hx⟩, -⟩ := hg
  change List Int at b
  change b.length ≤ 5000 at hp
  have hB : isB b := isB_good hx
  clear hx
  show vfun tab _ k29 Try.f29 [.sl (.int .u8) b] [] _
  refine Ev.out ?_
  repeat' (first | ((with_reducible refine Ev.mk ?_); conv => whnf) | (with_reducible refine And.intro ?_ ?_) | (intro h))
  all_goals (try simp only [decide_eq_true_eq, decide_eq_false_iff_not, beq_iff_eq, bne_iff_ne, beq_eq_false_iff_ne, bne_eq_false_iff_eq, Int.toNat_natCast, ge_iff_le, gt_iff_lt, Bool.not_eq_true', Bool.not_eq_false', Int.not_lt, Int.not_le, ne_eq] at *)
  all_goals (try dsimp only [Ty.den, Ty.dflt, NdT, SsT, InT, sLGet, sIGet, sNCheck] at *)
  all_goals (try simp only [eq4, ne4, eq3, ne3, eq2, ne2, Prod.eta, List.length_cons, List.length_nil, List.length_append, Nat.zero_add] at *)
  all_goals (try simp (disch := omega) only [wrap64] at *)
  all_goals try first | exact leafDraw (by kernel_rfl) | exact Leaf.mk trivial | (refine Leaf.mk ?_; omega) | (refine Leaf.mk ?_; unfold maxLen; omega)
  · obtain rfl : b = [] := List.eq_nil_of_length_eq_zero (by omega)
    exact Leaf.mk rfl
  all_goals
    obtain ⟨k, q, rfl⟩ : ∃ k q, b = k :: q := by
      cases b with
      | nil => simp at *
      | cons k q => exact ⟨k, q, rfl⟩
    have hk := hB k List.mem_cons_self
    have e1 : IntKind.i64.wrap ((k :: q).getD (Int.toNat 0) 0) = k := wrap64 (n := k) (by omega)
    have e2 : List.drop (Int.toNat 1) (List.take (k :: q).length (k :: q)) = q := by simp
    have hql : q.length + 1 ≤ 5000 := hp
    have hnp := readN_pre k q
    simp only [e1, e2] at *
  all_goals try
    have h0 : k = 0 := by assumption
    subst h0
    have hr : readN 0 q = (0, (getL q).1, inn0) := by rw [readN, if_pos rfl]
    have he : errN 0 q = (getL q).2 := by rw [errN, if_pos rfl]
    rw [hr] at hnp
  all_goals try
    have h0 : ¬ k = 0 := by assumption
    have hr : readN k q = (k, [], (getI q).1) := by rw [readN, if_neg h0]
    have he : errN k q = (getI q).2 := by rw [errN, if_neg h0]
    rw [hr] at hnp
  · exact Leaf.mk (show List.length (α := Int) q ≤ 50000 by omega)
  · refine Leaf.mk (retGn (u := (nod0, 4)) (v := getN (0 :: q)) (getN_no (fun h9 _ => ?_)).symm)
    rw [he] at h9; exact ‹¬ (getL q).2 = 0› h9
  · exact Leaf.mk hnp
  · refine Leaf.mk (retGn (u := (nod0, 4)) (v := getN (0 :: q)) (getN_no (fun _ h9 => ?_)).symm)
    rw [hr] at h9; exact ‹¬ checkN _ = 0› h9
  · refine Leaf.mk (retGn (u := ((0, (getL q).1, inn0), 0)) (v := getN (0 :: q)) ?_)
    rw [getN_yes (he.trans ‹(getL q).2 = 0›) (by rw [hr]; assumption), hr]
  · exact Leaf.mk (show List.length (α := Int) q ≤ 5000 by omega)
  · refine Leaf.mk (retGn (u := (nod0, 4)) (v := getN (k :: q)) (getN_no (fun h9 _ => ?_)).symm)
    rw [he] at h9; exact ‹¬ (getI q).2 = 0› h9
  · exact Leaf.mk hnp
  · refine Leaf.mk (retGn (u := (nod0, 4)) (v := getN (k :: q)) (getN_no (fun _ h9 => ?_)).symm)
    rw [hr] at h9; exact ‹¬ checkN _ = 0› h9
  · refine Leaf.mk (retGn (u := ((k, [], (getI q).1), 0)) (v := getN (k :: q)) ?_)
    rw [getN_yes (he.trans ‹(getI q).2 = 0›) (by rw [hr]; assumption), hr]
end Go.Proofs.Ytkmfjlfejdoehaa

set_option linter.unusedVariables false
set_option linter.unusedSimpArgs false
set_option maxRecDepth 8000
set_option maxHeartbeats 4000000
namespace Go.Proofs.Ytkmfjlfejdoehaa
open Go.Eng
def kidsN (n : Nod) : List Int := if n.1 = 0 then [] else n.2.2.2.1
def sCloneI : PSpec := ⟨[.d (.slice I64T)], [⟨false, [.o 3 I64T]⟩], fun x => x.1.length ≤ 1000000, fun x => ((x.1, ()), ())⟩
theorem fCloneI : FnOk Try.prog 43 := ⟨_, Try.func43, by decide, rfl⟩
theorem pCloneI : PSound Try.prog 43 sCloneI := by
  refine psound (T := tab) (S := (spOf [])) (keep := k43) (by kernel_rfl) tabOk spNil (by kernel_rfl) Try.func43 (by kernel_rfl) (by decide) fun xs hg hp => ?_
  obtain ⟨xs, ⟨⟩⟩ := xs
  obtain ⟨⟨hl, -⟩, -⟩ := hg
  change List Int at xs
  clear hl
  change xs.length ≤ 1000000 at hp
  show vfun tab _ k43 Try.f43 [.sl I64T xs] [] _
  refine Ev.out ?_
  repeat' (first | ((with_reducible refine Ev.mk ?_); conv => whnf) | (with_reducible refine And.intro ?_ ?_) | (intro h))
  all_goals (try simp only [decide_eq_true_eq, decide_eq_false_iff_not, beq_iff_eq, bne_iff_ne, beq_eq_false_iff_ne, bne_eq_false_iff_eq, Int.toNat_natCast, ge_iff_le, gt_iff_lt, Bool.not_eq_true', Bool.not_eq_false', Int.not_lt, Int.not_le, ne_eq] at *)
  all_goals (try dsimp only [Ty.den, Ty.dflt, I64T] at *)
  all_goals (try simp only [eq4, ne4, eq3, ne3, eq2, ne2, Prod.eta, List.length_cons, List.length_nil, List.length_append, Nat.zero_add] at *)
  all_goals (try simp (disch := omega) only [wrap64] at *)
  all_goals try first | exact leafDraw (by kernel_rfl) | exact Leaf.mk trivial | (refine Leaf.mk ?_; omega) | (refine Leaf.mk ?_; unfold maxLen; omega)
  all_goals first
    | (refine Leaf.mk (ret1 (show ([] : List Int) = xs from ?_)); exact (List.eq_nil_of_length_eq_zero (by omega)).symm)
    | exact Leaf.mk (ret1 rfl)
    | skip
def sNKids : PSpec := ⟨[.d NdT], [⟨false, [.d (.slice (.int .i64))]⟩], fun x => NPre x.1, fun x => ((kidsN x.1, ()), ())⟩
theorem fNKids : FnOk Try.prog 22 := ⟨_, Try.func22, by decide, rfl⟩
theorem pNKids : PSound Try.prog 22 sNKids := by
  refine psound (T := tab) (S := (spOf [(43, sCloneI.spec (lsOf []))])) (keep := k22) (by kernel_rfl) tabOk (spCons (pOk pCloneI fCloneI (by decide) lsNil) spNil) (by kernel_rfl) Try.func22 (by kernel_rfl) (by decide) fun xs hg hp => ?_
  obtain ⟨⟨d, l, ps, ks, bs⟩, ⟨⟩⟩ := xs
  clear hg
  change Int at d
  change List Stk at l
  change List (List UInt8) at ps
  change List Int at ks
  change List (List Msg) at bs
  change NPre (d, l, ps, ks, bs) at hp
  have hpl := hp.l
  have hpi := hp.i
  have hpp := hpi.p
  have hpk := hpi.k
  have hpb := hpi.b
  dsimp only at hpl hpi hpp hpk hpb
  show vfun tab _ k22 Try.f22 [.agg [.i .i64 d, .sl StT l, .sl .str ps, .sl (.int .i64) ks, .sl (.slice MsgT) bs]] [] _
  refine Ev.out ?_
  repeat' (first | ((with_reducible refine Ev.mk ?_); conv => whnf) | (with_reducible refine And.intro ?_ ?_) | (intro h))
  all_goals (try simp only [decide_eq_true_eq, decide_eq_false_iff_not, beq_iff_eq, bne_iff_ne, beq_eq_false_iff_ne, bne_eq_false_iff_eq, Int.toNat_natCast, ge_iff_le, gt_iff_lt, Bool.not_eq_true', Bool.not_eq_false', Int.not_lt, Int.not_le, ne_eq] at *)
  all_goals (try dsimp only [Ty.den, Ty.dflt, NdT, SsT, InT] at *)
  all_goals (try simp only [eq4, ne4, eq3, ne3, eq2, ne2, Prod.eta, List.length_cons, List.length_nil, List.length_append, Nat.zero_add] at *)
  all_goals (try simp (disch := omega) only [wrap64] at *)
  all_goals try first | exact leafDraw (by kernel_rfl) | exact Leaf.mk trivial | (refine Leaf.mk ?_; omega) | (refine Leaf.mk ?_; unfold maxLen; omega)
  all_goals first
    | exact Leaf.mk (show ks.length ≤ 1000000 by omega)
    | (refine Leaf.mk (ret1 (show ([] : List Int) = kidsN (d, l, ps, ks, bs) from ?_)); rw [kidsN, if_pos h])
    | (refine Leaf.mk (ret1 (show ks = kidsN (d, l, ps, ks, bs) from ?_)); rw [kidsN, if_neg h])
    | skip
def firstN (n : Nod) : List UInt8 × Bool := if n.1 = 0 then (if 0 < n.2.1.length then ((n.2.1.getD 0 stk0).1, true) else ([], false)) else (if 0 < n.2.2.1.length then (n.2.2.1.getD 0 [], true) else ([], false))
theorem retFn {u v : List UInt8 × Bool} (h : u = v) : (some ((u.1, ()), (u.2, ()), ()) : Option ((List UInt8 × Unit) × (Bool × Unit) × Unit)) = some ((v.1, ()), (v.2, ()), ()) := by rw [h]
def sNFirst : PSpec := ⟨[.d NdT], [⟨false, [.d .str]⟩, ⟨false, [.d .bool]⟩], fun x => NPre x.1, fun x => (((firstN x.1).1, ()), ((firstN x.1).2, ()), ())⟩
def sNFirstR : PSpec := sNFirst
theorem fNFirst : FnOk Try.prog 23 := ⟨_, Try.func23, by decide, rfl⟩
theorem pNFirst : PSound Try.prog 23 sNFirst := by
  refine psound (T := tab) (S := (spOf [])) (keep := k23) (by kernel_rfl) tabOk spNil (by kernel_rfl) Try.func23 (by kernel_rfl) (by decide) fun xs hg hp => ?_
  obtain ⟨⟨d, l, ps, ks, bs⟩, ⟨⟩⟩ := xs
  clear hg
  change Int at d
  change List Stk at l
  change List (List UInt8) at ps
  change List Int at ks
  change List (List Msg) at bs
  change NPre (d, l, ps, ks, bs) at hp
  have hpl := hp.l
  have hpi := hp.i
  have hpp := hpi.p
  have hpk := hpi.k
  have hpb := hpi.b
  dsimp only at hpl hpi hpp hpk hpb
  show vfun tab _ k23 Try.f23 [.agg [.i .i64 d, .sl StT l, .sl .str ps, .sl (.int .i64) ks, .sl (.slice MsgT) bs]] [] _
  refine Ev.out ?_
  repeat' (first | ((with_reducible refine Ev.mk ?_); conv => whnf) | (with_reducible refine And.intro ?_ ?_) | (intro h))
  all_goals (try simp only [decide_eq_true_eq, decide_eq_false_iff_not, beq_iff_eq, bne_iff_ne, beq_eq_false_iff_ne, bne_eq_false_iff_eq, Int.toNat_natCast, ge_iff_le, gt_iff_lt, Bool.not_eq_true', Bool.not_eq_false', Int.not_lt, Int.not_le, ne_eq] at *)
  all_goals (try dsimp only [Ty.den, Ty.dflt, NdT, SsT, InT] at *)
  all_goals (try simp only [eq4, ne4, eq3, ne3, eq2, ne2, Prod.eta, List.length_cons, List.length_nil, List.length_append, Nat.zero_add] at *)
  all_goals (try simp (disch := omega) only [wrap64] at *)
  all_goals try first | exact leafDraw (by kernel_rfl) | exact Leaf.mk trivial | (refine Leaf.mk ?_; omega) | (refine Leaf.mk ?_; unfold maxLen; omega)
  all_goals first
    | (refine Leaf.mk (retFn (u := ((l.getD 0 stk0).1, true)) (v := firstN (d, l, ps, ks, bs)) ?_); rw [firstN, if_pos (show d = 0 by omega), if_pos (show 0 < l.length by omega)]; done)
    | (refine Leaf.mk (retFn (u := (ps.getD 0 [], true)) (v := firstN (d, l, ps, ks, bs)) ?_); rw [firstN, if_neg (show ¬ d = 0 by omega), if_pos (show 0 < ps.length by omega)]; done)
    | (refine Leaf.mk (retFn (u := ([], false)) (v := firstN (d, l, ps, ks, bs)) ?_); rw [firstN, if_pos (show d = 0 by omega), if_neg (show ¬ 0 < l.length by omega)]; done)
    | (refine Leaf.mk (retFn (u := ([], false)) (v := firstN (d, l, ps, ks, bs)) ?_); rw [firstN, if_neg (show ¬ d = 0 by omega), if_neg (show ¬ 0 < ps.length by omega)]; done)
    | skip
theorem fNFirstR : FnOk Try.prog 24 := ⟨_, Try.func24, by decide, rfl⟩
theorem pNFirstR : PSound Try.prog 24 sNFirstR := by
  refine psound (T := tab) (S := (spOf [])) (keep := k24) (by kernel_rfl) tabOk spNil (by kernel_rfl) Try.func24 (by kernel_rfl) (by decide) fun xs hg hp => ?_
  obtain ⟨⟨d, l, ps, ks, bs⟩, ⟨⟩⟩ := xs
  clear hg
  change Int at d
  change List Stk at l
  change List (List UInt8) at ps
  change List Int at ks
  change List (List Msg) at bs
  change NPre (d, l, ps, ks, bs) at hp
  have hpl := hp.l
  have hpi := hp.i
  have hpp := hpi.p
  have hpk := hpi.k
  have hpb := hpi.b
  dsimp only at hpl hpi hpp hpk hpb
  show vfun tab _ k24 Try.f24 [.agg [.i .i64 d, .sl StT l, .sl .str ps, .sl (.int .i64) ks, .sl (.slice MsgT) bs]] [] _
  refine Ev.out ?_
  repeat' (first | ((with_reducible refine Ev.mk ?_); conv => whnf) | (with_reducible refine And.intro ?_ ?_) | (intro h))
  all_goals (try simp only [decide_eq_true_eq, decide_eq_false_iff_not, beq_iff_eq, bne_iff_ne, beq_eq_false_iff_ne, bne_eq_false_iff_eq, Int.toNat_natCast, ge_iff_le, gt_iff_lt, Bool.not_eq_true', Bool.not_eq_false', Int.not_lt, Int.not_le, ne_eq] at *)
  all_goals (try dsimp only [Ty.den, Ty.dflt, NdT, SsT, InT] at *)
  all_goals (try simp only [eq4, ne4, eq3, ne3, eq2, ne2, Prod.eta, List.length_cons, List.length_nil, List.length_append, Nat.zero_add] at *)
  all_goals (try simp (disch := omega) only [wrap64] at *)
  all_goals try first | exact leafDraw (by kernel_rfl) | exact Leaf.mk trivial | (refine Leaf.mk ?_; omega) | (refine Leaf.mk ?_; unfold maxLen; omega)
  all_goals first
    | (refine Leaf.mk (retFn (u := ((l.getD 0 stk0).1, true)) (v := firstN (d, l, ps, ks, bs)) ?_); rw [firstN, if_pos (show d = 0 by omega), if_pos (show 0 < l.length by omega)]; done)
    | (refine Leaf.mk (retFn (u := (ps.getD 0 [], true)) (v := firstN (d, l, ps, ks, bs)) ?_); rw [firstN, if_neg (show ¬ d = 0 by omega), if_pos (show 0 < ps.length by omega)]; done)
    | (refine Leaf.mk (retFn (u := ([], false)) (v := firstN (d, l, ps, ks, bs)) ?_); rw [firstN, if_pos (show d = 0 by omega), if_neg (show ¬ 0 < l.length by omega)]; done)
    | (refine Leaf.mk (retFn (u := ([], false)) (v := firstN (d, l, ps, ks, bs)) ?_); rw [firstN, if_neg (show ¬ d = 0 by omega), if_neg (show ¬ 0 < ps.length by omega)]; done)
    | skip
def sameN (a b : Nod) : Bool := decide (a.1 = b.1 ∧ a.2.1 = b.2.1 ∧ a.2.2 = b.2.2)
theorem sameN_iff {a b : Nod} : sameN a b = true ↔ a = b := by
  rw [sameN, decide_eq_true_iff]
  obtain ⟨x, y, z⟩ := a; obtain ⟨u, v, w⟩ := b
  constructor
  · rintro ⟨h1, h2, h3⟩; dsimp only at h1 h2 h3; rw [h1, h2, h3]
  · intro h; cases h; exact ⟨rfl, rfl, rfl⟩
def sNSame : PSpec := ⟨[.d NdT, .d NdT], [⟨false, [.d .bool]⟩], fun x => NPre x.1, fun x => ((sameN x.1 x.2.1, ()), ())⟩
def sNSameR : PSpec := sNSame
theorem sameN_no {a b : Nod} (h : ¬ a = b) : false = sameN a b := by
  cases e : sameN a b
  · rfl
  · exact absurd (sameN_iff.1 e) h
theorem sameN_i {a b : Nod} (h1 : a.1 = b.1) (h2 : a.2.1 = b.2.1) : sameI a.2.2 b.2.2 = sameN a b := by
  apply Bool.eq_iff_iff.2
  rw [sameI, sameN, decide_eq_true_iff, decide_eq_true_iff]
  exact ⟨fun h => ⟨h1, h2, h⟩, fun h => h.2.2⟩
theorem fNSame : FnOk Try.prog 25 := ⟨_, Try.func25, by decide, rfl⟩
theorem pNSame : PSound Try.prog 25 sNSame := by
  refine psound (T := tab) (S := (spOf [(44, sLSame.spec (lsOf [])), (45, sISame.spec (lsOf []))])) (keep := k25) (by kernel_rfl) tabOk (spCons (pOk pLSame fLSame (by decide) lsNil) (spCons (pOk pISame fISame (by decide) lsNil) spNil)) (by kernel_rfl) Try.func25 (by kernel_rfl) (by decide) fun xs hg hp => ?_
  obtain ⟨⟨d, l, ps, ks, bs⟩, ⟨d1, l1, ps1, ks1, bs1⟩, ⟨⟩⟩ := xs
  clear hg
  change Int at d d1
  change List Stk at l l1
  change List (List UInt8) at ps ps1
  change List Int at ks ks1
  change List (List Msg) at bs bs1
  change NPre (d, l, ps, ks, bs) at hp
  have hpl := hp.l
  have hpk := hp.i.k
  have hpb := hp.i.b
  dsimp only at hpl hpk hpb
  show vfun tab _ k25 Try.f25 [.agg [.i .i64 d, .sl StT l, .sl .str ps, .sl (.int .i64) ks, .sl (.slice MsgT) bs], .agg [.i .i64 d1, .sl StT l1, .sl .str ps1, .sl (.int .i64) ks1, .sl (.slice MsgT) bs1]] [] _
  refine Ev.out ?_
  repeat' (first | ((with_reducible refine Ev.mk ?_); conv => whnf) | (with_reducible refine And.intro ?_ ?_) | (intro h))
  all_goals (try simp only [decide_eq_true_eq, decide_eq_false_iff_not, beq_iff_eq, bne_iff_ne, beq_eq_false_iff_ne, bne_eq_false_iff_eq, Int.toNat_natCast, ge_iff_le, gt_iff_lt, Bool.not_eq_true', Bool.not_eq_false', Int.not_lt, Int.not_le, ne_eq] at *)
  all_goals (try dsimp only [Ty.den, Ty.dflt, NdT, SsT, InT, sLSame, sISame] at *)
  all_goals (try simp only [eq4, ne4, eq3, ne3, eq2, ne2, Prod.eta, List.length_cons, List.length_nil, List.length_append, Nat.zero_add] at *)
  all_goals (try simp (disch := omega) only [wrap64] at *)
  all_goals try first | exact leafDraw (by kernel_rfl) | exact Leaf.mk trivial | (refine Leaf.mk ?_; omega) | (refine Leaf.mk ?_; unfold maxLen; omega)
  all_goals first
    | exact Leaf.mk (show l.length ≤ 100000 by omega)
    | exact Leaf.mk (show ks.length ≤ 100000 ∧ bs.length ≤ 100000 by omega)
    | (refine Leaf.mk (ret1 (show sameI (ps, ks, bs) (ps1, ks1, bs1) = sameN (d, l, ps, ks, bs) (d1, l1, ps1, ks1, bs1) from ?_)); exact sameN_i (a := (d, l, ps, ks, bs)) (b := (d1, l1, ps1, ks1, bs1)) ‹d = d1› (of_decide_eq_true (show decide (l = l1) = true from ‹_›)))
    | (refine Leaf.mk (ret1 (show false = sameN (d, l, ps, ks, bs) (d1, l1, ps1, ks1, bs1) from sameN_no fun h9 => ?_)); exact of_decide_eq_false (show decide (l = l1) = false from ‹_›) (congrArg (·.2.1) h9))
    | (refine Leaf.mk (ret1 (show false = sameN (d, l, ps, ks, bs) (d1, l1, ps1, ks1, bs1) from sameN_no fun h9 => ?_)); exact ‹¬ d = d1› (congrArg (·.1) h9))
    | skip
theorem fNSameR : FnOk Try.prog 26 := ⟨_, Try.func26, by decide, rfl⟩
theorem pNSameR : PSound Try.prog 26 sNSameR := by
  refine psound (T := tab) (S := (spOf [(12, sSameAll.spec (lsOf [])), (46, sISameR.spec (lsOf []))])) (keep := k26) (by kernel_rfl) tabOk (spCons (pOk pSameAll fSameAll (by decide) lsNil) (spCons (pOk pISameR fISameR (by decide) lsNil) spNil)) (by kernel_rfl) Try.func26 (by kernel_rfl) (by decide) fun xs hg hp => ?_
  obtain ⟨⟨d, l, ps, ks, bs⟩, ⟨d1, l1, ps1, ks1, bs1⟩, ⟨⟩⟩ := xs
  clear hg
  change Int at d d1
  change List Stk at l l1
  change List (List UInt8) at ps ps1
  change List Int at ks ks1
  change List (List Msg) at bs bs1
  change NPre (d, l, ps, ks, bs) at hp
  have hpl := hp.l
  have hpk := hp.i.k
  have hpb := hp.i.b
  dsimp only at hpl hpk hpb
  show vfun tab _ k26 Try.f26 [.agg [.i .i64 d, .sl StT l, .sl .str ps, .sl (.int .i64) ks, .sl (.slice MsgT) bs], .agg [.i .i64 d1, .sl StT l1, .sl .str ps1, .sl (.int .i64) ks1, .sl (.slice MsgT) bs1]] [] _
  refine Ev.out ?_
  repeat' (first | ((with_reducible refine Ev.mk ?_); conv => whnf) | (with_reducible refine And.intro ?_ ?_) | (intro h))
  all_goals (try simp only [decide_eq_true_eq, decide_eq_false_iff_not, beq_iff_eq, bne_iff_ne, beq_eq_false_iff_ne, bne_eq_false_iff_eq, Int.toNat_natCast, ge_iff_le, gt_iff_lt, Bool.not_eq_true', Bool.not_eq_false', Int.not_lt, Int.not_le, ne_eq] at *)
  all_goals (try dsimp only [Ty.den, Ty.dflt, NdT, SsT, InT, sSameAll, sISameR, sISame] at *)
  all_goals (try simp only [eq4, ne4, eq3, ne3, eq2, ne2, Prod.eta, List.length_cons, List.length_nil, List.length_append, Nat.zero_add] at *)
  all_goals (try simp (disch := omega) only [wrap64] at *)
  all_goals try first | exact leafDraw (by kernel_rfl) | exact Leaf.mk trivial | (refine Leaf.mk ?_; omega) | (refine Leaf.mk ?_; unfold maxLen; omega)
  all_goals first
    | exact Leaf.mk (show l.length ≤ 100000 by omega)
    | exact Leaf.mk (show ks.length ≤ 100000 ∧ bs.length ≤ 100000 by omega)
    | (refine Leaf.mk (ret1 (show sameI (ps, ks, bs) (ps1, ks1, bs1) = sameN (d, l, ps, ks, bs) (d1, l1, ps1, ks1, bs1) from ?_)); exact sameN_i (a := (d, l, ps, ks, bs)) (b := (d1, l1, ps1, ks1, bs1)) ‹d = d1› (of_decide_eq_true (show decide (l = l1) = true from ‹_›)))
    | (refine Leaf.mk (ret1 (show false = sameN (d, l, ps, ks, bs) (d1, l1, ps1, ks1, bs1) from sameN_no fun h9 => ?_)); exact of_decide_eq_false (show decide (l = l1) = false from ‹_›) (congrArg (·.2.1) h9))
    | (refine Leaf.mk (ret1 (show false = sameN (d, l, ps, ks, bs) (d1, l1, ps1, ks1, bs1) from sameN_no fun h9 => ?_)); exact ‹¬ d = d1› (congrArg (·.1) h9))
    | skip
def lightI (n : Inn) : Bool := decide (n.1.length ≤ 10 ∧ n.2.1.length ≤ 10 ∧ n.2.2.length ≤ 10) && (n.1.all (fun p => decide (p.length ≤ 100)) && n.2.2.all (fun b => lightM b 30))
def sLightI : PSpec := ⟨[.d InT], [⟨false, [.d .bool]⟩], fun _ => True, fun x => ((lightI x.1, ()), ())⟩
theorem lightI_pre {n : Inn} (h : lightI n = true) : IPre n ∧ ∀ b ∈ n.2.2, b.length ≤ 30 := by
  simp only [lightI, Bool.and_eq_true, decide_eq_true_eq, List.all_eq_true] at h
  obtain ⟨⟨h1, h2, h3⟩, h4, h5⟩ := h
  have hb : ∀ b ∈ n.2.2, b.length ≤ 30 := fun b hb => by
    have := h5 b hb
    unfold lightM at this
    rw [Bool.and_eq_true, decide_eq_true_eq] at this
    omega
  have hf : n.2.2.flatten.length ≤ n.2.2.length * 30 := by
    have := flat_len2 (f := id) (m := 30) (l := n.2.2) hb
    rwa [List.flatMap_id] at this
  exact ⟨⟨by omega, fun p hp => by have := h4 p hp; omega, by omega, by omega, by omega⟩, hb⟩
theorem lightI_no {n : Inn} (h : (¬ (n.1.length ≤ 10 ∧ n.2.1.length ≤ 10 ∧ n.2.2.length ≤ 10)) ∨ (∃ i, i < n.1.length ∧ ¬ (n.1.getD i []).length ≤ 100) ∨ ∃ i, i < n.2.2.length ∧ lightM (n.2.2.getD i []) 30 = false) : lightI n = false := by
  apply Bool.eq_false_iff.2
  intro hc
  simp only [lightI, Bool.and_eq_true, decide_eq_true_eq, List.all_eq_true] at hc
  rcases h with h | ⟨i, hi, h⟩ | ⟨i, hi, h⟩
  · exact h hc.1
  · exact h (hc.2.1 _ (getD_mem (xs := n.1) [] hi))
  · rw [hc.2.2 _ (getD_mem (xs := n.2.2) [] hi)] at h; cases h
theorem all_getD {α : Type} {p : α → Bool} {l : List α} (d : α) (h : ∀ i, i < l.length → p (l.getD i d) = true) : l.all p = true := by
  rw [List.all_eq_true]
  intro x hx
  obtain ⟨i, hi, rfl⟩ := List.mem_iff_getElem.1 hx
  have := h i hi
  rwa [List.getD_eq_getElem?_getD, List.getElem?_eq_getElem hi] at this
theorem lightI_yes {n : Inn} (h : n.1.length ≤ 10 ∧ n.2.1.length ≤ 10 ∧ n.2.2.length ≤ 10) (h1 : ∀ i, i < n.1.length → (n.1.getD i []).length ≤ 100) (h2 : ∀ i, i < n.2.2.length → lightM (n.2.2.getD i []) 30 = true) : lightI n = true := by
  rw [lightI, decide_eq_true h, all_getD [] (fun i hi => decide_eq_true (h1 i hi)), all_getD [] h2]; rfl
theorem fLightI : FnOk Try.prog 42 := ⟨_, Try.func42, by decide, rfl⟩
theorem pLightI : PSound Try.prog 42 sLightI := by
  refine psound (T := tab) (S := (spOf [(31, sLightM.spec (lsOf []))])) (keep := k42) (by kernel_rfl) tabOk (spCons (pOk pLightM fLightM (by decide) lsNil) spNil) (by kernel_rfl) Try.func42 (by kernel_rfl) (by decide) fun xs hg hp => ?_
  obtain ⟨⟨ps, ks, bs⟩, ⟨⟩⟩ := xs
  obtain ⟨⟨⟨hlp, -⟩, -, ⟨hlb, -⟩⟩, -⟩ := hg
  change List (List UInt8) at ps
  change List Int at ks
  change List (List Msg) at bs
  have hlp := len63 hlp
  have hlb := len63 hlb
  clear hp
  show vfun tab _ k42 Try.f42 [.agg [.sl .str ps, .sl (.int .i64) ks, .sl (.slice MsgT) bs]] [] _
  refine Ev.out ?_
  repeat' (first | ((with_reducible refine Ev.mk ?_); conv => whnf) | (with_reducible refine And.intro ?_ ?_) | (intro h))
  all_goals (try simp only [decide_eq_true_eq, decide_eq_false_iff_not, beq_iff_eq, bne_iff_ne, beq_eq_false_iff_ne, bne_eq_false_iff_eq, Int.toNat_natCast, ge_iff_le, gt_iff_lt, Bool.not_eq_true', Bool.not_eq_false', Int.not_lt, Int.not_le, ne_eq] at *)
  all_goals (try dsimp only [Ty.den, Ty.dflt, InT] at *)
  all_goals (try simp only [eq4, ne4, eq3, ne3, eq2, ne2, Prod.eta, List.length_cons, List.length_nil, List.length_append, Nat.zero_add] at *)
  all_goals (try simp (disch := omega) only [wrap64] at *)
  all_goals try first | exact leafDraw (by kernel_rfl) | exact Leaf.mk trivial | (refine Leaf.mk ?_; omega) | (refine Leaf.mk ?_; unfold maxLen; omega)
  · exact Leaf.mk (ret1 (show false = lightI (ps, ks, bs) from (lightI_no (.inl (by dsimp only; omega))).symm))
  · exact Leaf.mk (ret1 (show false = lightI (ps, ks, bs) from (lightI_no (.inl (by dsimp only; omega))).symm))
  · exact Leaf.mk (ret1 (show false = lightI (ps, ks, bs) from (lightI_no (.inl (by dsimp only; omega))).symm))
  refine LoopVC.on (fun i : Nat => [(3, .i .i64 i)]) (fun _ => []) (fun i => i ≤ ps.length ∧ ∀ j, j < i → (ps.getD j []).length ≤ 100) (fun i => ps.length - i) 0 rfl ⟨by omega, fun j hj => by omega⟩ ?_
  intro i ⟨hi, ha⟩
  repeat' (first | ((with_reducible refine Ev.mk ?_); conv => whnf) | (with_reducible refine And.intro ?_ ?_) | (intro h))
  all_goals (try simp only [decide_eq_true_eq, decide_eq_false_iff_not, beq_iff_eq, bne_iff_ne, beq_eq_false_iff_ne, bne_eq_false_iff_eq, Int.toNat_natCast, ge_iff_le, gt_iff_lt, Bool.not_eq_true', Bool.not_eq_false', Int.not_lt, Int.not_le, ne_eq] at *)
  all_goals (try dsimp only [Ty.den, Ty.dflt, InT] at *)
  all_goals (try simp only [eq4, ne4, eq3, ne3, eq2, ne2, Prod.eta, List.length_cons, List.length_nil, List.length_append, Nat.zero_add] at *)
  all_goals (try simp (disch := omega) only [wrap64] at *)
  all_goals try first | exact leafDraw (by kernel_rfl) | exact Leaf.mk trivial | (refine Leaf.mk ?_; omega) | (refine Leaf.mk ?_; unfold maxLen; omega)
  · refine Leaf.mk (ret1 (show false = lightI (ps, ks, bs) from (lightI_no (.inr (.inl ⟨i, by dsimp only; omega, ?_⟩))).symm)); dsimp only; omega
  · refine Leaf.mk ⟨i + 1, rfl, ⟨by omega, fun j hj => ?_⟩, by omega⟩
    rcases Nat.lt_or_ge j i with hji | hji
    · exact ha j hji
    · obtain rfl : j = i := by omega
      omega
  refine LoopVC.on (fun i : Nat => [(4, .i .i64 i)]) (fun _ => []) (fun i => i ≤ bs.length ∧ ∀ j, j < i → lightM (bs.getD j []) 30 = true) (fun i => bs.length - i) 0 rfl ⟨by omega, fun j hj => by omega⟩ ?_
  intro k ⟨hk, hb⟩
  repeat' (first | ((with_reducible refine Ev.mk ?_); conv => whnf) | (with_reducible refine And.intro ?_ ?_) | (intro h))
  all_goals (try simp only [decide_eq_true_eq, decide_eq_false_iff_not, beq_iff_eq, bne_iff_ne, beq_eq_false_iff_ne, bne_eq_false_iff_eq, Int.toNat_natCast, ge_iff_le, gt_iff_lt, Bool.not_eq_true', Bool.not_eq_false', Int.not_lt, Int.not_le, ne_eq] at *)
  all_goals (try dsimp only [Ty.den, Ty.dflt, InT, sLightM] at *)
  all_goals (try simp only [eq4, ne4, eq3, ne3, eq2, ne2, Prod.eta, List.length_cons, List.length_nil, List.length_append, Nat.zero_add] at *)
  all_goals (try simp (disch := omega) only [wrap64] at *)
  all_goals try first | exact leafDraw (by kernel_rfl) | exact Leaf.mk trivial | (refine Leaf.mk ?_; omega) | (refine Leaf.mk ?_; unfold maxLen; omega)
  · exact Leaf.mk (ret1 (show false = lightI (ps, ks, bs) from (lightI_no (.inr (.inr ⟨k, by dsimp only; omega, ‹_›⟩))).symm))
  · refine Leaf.mk ⟨k + 1, rfl, ⟨by omega, fun j hj => ?_⟩, by omega⟩
    rcases Nat.lt_or_ge j k with hji | hji
    · exact hb j hji
    · obtain rfl : j = k := by omega
      assumption
  · refine Leaf.mk (ret1 (show true = lightI (ps, ks, bs) from (lightI_yes ⟨by dsimp only; omega, by dsimp only; omega, by dsimp only; omega⟩ (fun j hj => ha j (by dsimp only at hj; omega)) (fun j hj => hb j (by dsimp only at hj; omega))).symm))
def lightN (n : Nod) : Bool := lightL n.2.1 12 && lightI n.2.2
def sLightN : PSpec := ⟨[.d NdT], [⟨false, [.d .bool]⟩], fun _ => True, fun x => ((lightN x.1, ()), ())⟩
theorem lightN_pre {n : Nod} (h : lightN n = true) : NPre n ∧ n.2.1.length ≤ 12 ∧ n.2.2.2.2.length ≤ 20 ∧ n.2.2.1.length ≤ 20 ∧ n.2.2.2.1.length ≤ 20 ∧ ∀ b ∈ n.2.2.2.2, b.length ≤ 30 := by
  rw [lightN, Bool.and_eq_true] at h
  have h1 : (n.2.1.length : Int) ≤ 12 := by
    have := h.1
    unfold lightL at this
    rw [Bool.and_eq_true, decide_eq_true_eq] at this
    exact this.1
  have h2 := lightI_pre h.2
  have h3 := h2.1
  exact ⟨⟨by omega, h3⟩, by omega, h3.b, h3.p, h3.k, h2.2⟩
theorem fLightN : FnOk Try.prog 19 := ⟨_, Try.func19, by decide, rfl⟩
theorem pLightN : PSound Try.prog 19 sLightN := by
  refine psound (T := tab) (S := (spOf [(7, sLight14.spec (lsOf [])), (42, sLightI.spec (lsOf []))])) (keep := k19) (by kernel_rfl) tabOk (spCons (pOk pLight14 fLight14 (by decide) lsNil) (spCons (pOk pLightI fLightI (by decide) lsNil) spNil)) (by kernel_rfl) Try.func19 (by kernel_rfl) (by decide) fun xs hg hp => ?_
  obtain ⟨⟨d, l, ps, ks, bs⟩, ⟨⟩⟩ := xs
  clear hg hp
  change Int at d
  change List Stk at l
  change List (List UInt8) at ps
  change List Int at ks
  change List (List Msg) at bs
  show vfun tab _ k19 Try.f19 [.agg [.i .i64 d, .sl StT l, .sl .str ps, .sl (.int .i64) ks, .sl (.slice MsgT) bs]] [] _
  refine Ev.out ?_
  repeat' (first | ((with_reducible refine Ev.mk ?_); conv => whnf) | (with_reducible refine And.intro ?_ ?_) | (intro h))
  all_goals (try simp only [decide_eq_true_eq, decide_eq_false_iff_not, beq_iff_eq, bne_iff_ne, beq_eq_false_iff_ne, bne_eq_false_iff_eq, Int.toNat_natCast, ge_iff_le, gt_iff_lt, Bool.not_eq_true', Bool.not_eq_false', Int.not_lt, Int.not_le, ne_eq] at *)
  all_goals (try dsimp only [Ty.den, Ty.dflt, NdT, InT, SsT, sLight14, sLightI] at *)
  all_goals (try simp only [eq4, ne4, eq3, ne3, eq2, ne2, Prod.eta, List.length_cons, List.length_nil, List.length_append, Nat.zero_add] at *)
  all_goals (try simp (disch := omega) only [wrap64] at *)
  all_goals try first | exact leafDraw (by kernel_rfl) | exact Leaf.mk trivial | (refine Leaf.mk ?_; omega) | (refine Leaf.mk ?_; unfold maxLen; omega)
  · refine Leaf.mk (ret1 (show lightI (ps, ks, bs) = lightN (d, l, ps, ks, bs) from ?_))
    rw [lightN, show lightL l 12 = true from ‹_›, Bool.true_and]
  · refine Leaf.mk (ret1 (show false = lightN (d, l, ps, ks, bs) from ?_))
    rw [lightN, show lightL l 12 = false from ‹_›, Bool.false_and]
def sOwnN : PSpec := ⟨[.d NdT], [⟨true, [.d NdT]⟩], fun x => NPre x.1 ∧ ∀ b ∈ x.1.2.2.2.2, List.length b ≤ 1000, fun x => ((x.1, ()), ())⟩
theorem fOwnN : FnOk Try.prog 21 := ⟨_, Try.func21, by decide, rfl⟩
theorem pOwnN : PSound Try.prog 21 sOwnN := by
  refine psound (T := tab) (S := (spOf [])) (keep := k21) (by kernel_rfl) tabOk spNil (by kernel_rfl) Try.func21 (by kernel_rfl) (by decide) fun xs hg hp => ?_
  obtain ⟨⟨d, l, ps, ks, bs⟩, ⟨⟩⟩ := xs
  clear hg
  change Int at d
  change List Stk at l
  change List (List UInt8) at ps
  change List Int at ks
  change List (List Msg) at bs
  change NPre (d, l, ps, ks, bs) ∧ ∀ b ∈ bs, List.length b ≤ 1000 at hp
  obtain ⟨hp, hbm⟩ := hp
  have hpl := hp.l
  have hpp := hp.i.p
  have hpk := hp.i.k
  have hpb := hp.i.b
  dsimp only at hpl hpp hpk hpb
  show vfun tab _ k21 Try.f21 [.agg [.i .i64 d, .sl StT l, .sl .str ps, .sl (.int .i64) ks, .sl (.slice MsgT) bs]] [] _
  refine Ev.out ?_
  repeat' (first | ((with_reducible refine Ev.mk ?_); conv => whnf) | (with_reducible refine And.intro ?_ ?_) | (intro h))
  all_goals (try simp only [decide_eq_true_eq, decide_eq_false_iff_not, beq_iff_eq, bne_iff_ne, beq_eq_false_iff_ne, bne_eq_false_iff_eq, Int.toNat_natCast, ge_iff_le, gt_iff_lt, Bool.not_eq_true', Bool.not_eq_false', Int.not_lt, Int.not_le, ne_eq] at *)
  all_goals (try dsimp only [Ty.den, Ty.dflt, NdT, InT, SsT] at *)
  all_goals (try simp only [eq4, ne4, eq3, ne3, eq2, ne2, Prod.eta, List.length_cons, List.length_nil, List.length_append, Nat.zero_add] at *)
  all_goals (try simp (disch := omega) only [wrap64] at *)
  all_goals try first | exact leafDraw (by kernel_rfl) | exact Leaf.mk trivial | (refine Leaf.mk ?_; omega) | (refine Leaf.mk ?_; unfold maxLen; omega)
  refine LoopVC.weak [(.cell 2 4, .nil 37 (.slice MsgT))] (fun i : Nat => [(4, .i .i64 i)]) (fun i => [(6, .arr 37 (.slice MsgT) (bs.take i))]) (fun i => i ≤ bs.length) (fun i => bs.length - i) 0 (Ev.mk ?_)
  (conv => whnf)
  refine ⟨Leaf.mk ?_, Leaf.mk ?_, ?_⟩
  · rfl
  · omega
  intro i hi
  have hbi := fun h => hbm _ (getD_mem (xs := bs) [] (show i < bs.length from h))
  repeat' (first | ((with_reducible refine Ev.mk ?_); conv => whnf) | (with_reducible refine And.intro ?_ ?_) | (intro h))
  all_goals (try simp only [decide_eq_true_eq, decide_eq_false_iff_not, beq_iff_eq, bne_iff_ne, beq_eq_false_iff_ne, bne_eq_false_iff_eq, Int.toNat_natCast, ge_iff_le, gt_iff_lt, Bool.not_eq_true', Bool.not_eq_false', Int.not_lt, Int.not_le, ne_eq] at *)
  all_goals (try dsimp only [Ty.den, Ty.dflt, NdT, InT, SsT] at *)
  all_goals (try simp only [eq4, ne4, eq3, ne3, eq2, ne2, Prod.eta, List.length_cons, List.length_nil, List.length_append, Nat.zero_add] at *)
  all_goals (try simp (disch := omega) only [wrap64] at *)
  all_goals try first | exact leafDraw (by kernel_rfl) | exact Leaf.mk trivial | (refine Leaf.mk ?_; omega) | (refine Leaf.mk ?_; unfold maxLen; omega)
  all_goals have htl : (bs.take i).length = i := by rw [List.length_take]; omega
  all_goals first
    | (refine Leaf.mk ?_; have := hbi (by omega); omega)
    | (refine Leaf.mk ?_; have := hbi (by omega); unfold maxLen; omega)
    | (refine Leaf.mk ?_; omega)
    | (refine Leaf.mk ?_; unfold maxLen; omega)
    | (refine Leaf.mk (Exists.intro (i + 1) ⟨?_, by omega, by omega⟩)
       rw [take_at [] (show i < bs.length by omega)]; rfl)
    | (have hbt : bs.take i = bs := List.take_of_length_le (by omega)
       refine Leaf.mk (ret1 (show ((d, [] ++ l, ps, ks, bs.take i) : Nod) = (d, l, ps, ks, bs) from ?_))
       rw [hbt, List.nil_append])
    | skip
theorem ipre_iff {n : Inn} : IPre n ↔ n.1.length ≤ 20 ∧ (∀ p ∈ n.1, p.length ≤ 1000) ∧ n.2.1.length ≤ 20 ∧ n.2.2.length ≤ 20 ∧ n.2.2.flatten.length ≤ 5000 := ⟨fun h => ⟨h.p, h.pt, h.k, h.b, h.m⟩, fun h => ⟨h.1, h.2.1, h.2.2.1, h.2.2.2.1, h.2.2.2.2⟩⟩
instance decIPre (n : Inn) : Decidable (IPre n) := decidable_of_iff _ ipre_iff.symm
theorem npre_iff {n : Nod} : NPre n ↔ n.2.1.length ≤ 100000 ∧ IPre n.2.2 := ⟨fun h => ⟨h.l, h.i⟩, fun h => ⟨h.1, h.2⟩⟩
instance decNPre (n : Nod) : Decidable (NPre n) := decidable_of_iff _ npre_iff.symm
def sAwake16 : PSpec := ⟨[], [⟨false, [.d .bool]⟩], fun _ => True, fun _ => ((true, ()), ())⟩
theorem fAwake16 : FnOk Try.prog 20 := ⟨_, Try.func20, by decide, rfl⟩
theorem pAwake16 : PSound Try.prog 20 sAwake16 := by
  refine psound (T := tab) (S := (spOf [(28, sNPut.spec (lsOf [])), (29, sNGet.spec (lsOf [])), (22, sNKids.spec (lsOf [])), (23, sNFirst.spec (lsOf [])), (30, sNSize.spec (lsOf [])), (25, sNSame.spec (lsOf [])), (27, sNCheck.spec (lsOf []))])) (keep := k20) (by kernel_rfl) tabOk (spCons (pOk pNPut fNPut (by decide) lsNil) (spCons (pOk pNGet fNGet (by decide) lsNil) (spCons (pOk pNKids fNKids (by decide) lsNil) (spCons (pOk pNFirst fNFirst (by decide) lsNil) (spCons (pOk pNSize fNSize (by decide) lsNil) (spCons (pOk pNSame fNSame (by decide) lsNil) (spCons (pOk pNCheck fNCheck (by decide) lsNil) spNil))))))) (by kernel_rfl) Try.func20 (by kernel_rfl) (by decide) fun xs hg hp => ?_
  obtain ⟨⟩ := xs
  show vfun tab _ k20 Try.f20 [] [] _
  refine Ev.out ?_
  repeat' (first | ((with_reducible refine Ev.mk ?_); conv => whnf) | (with_reducible refine And.intro ?_ ?_) | (intro h; first | exact absurd h (by decide +kernel) | skip))
  all_goals first
    | exact Leaf.mk trivial
    | exact leafDraw (by kernel_rfl)
    | (refine Leaf.mk ?_; change NPre _; decide +kernel)
    | (refine Leaf.mk ?_; change (_ : Nat) ≤ _; decide +kernel)
    | (refine Leaf.mk ?_; decide +kernel)
    | exact Leaf.mk rfl
    | skip
end Go.Proofs.Ytkmfjlfejdoehaa

set_option linter.unusedVariables false
set_option linter.unusedSimpArgs false
set_option maxHeartbeats 1000000
namespace Go.Proofs.Ytkmfjlfejdoehaa
open Go.Eng
theorem len_nil {α : Type} {l : List α} (h : l.length = 0) : l = [] := List.eq_nil_of_length_eq_zero h
theorem OkN.shape {n : Nod} (h : OkN n) : (n.1 = 0 ∧ n = (0, n.2.1, inn0)) ∨ (¬ n.1 = 0 ∧ n = (n.1, [], n.2.2)) := by
  have he := h.e
  obtain ⟨d, l, ps, ks, bs⟩ := n
  by_cases h0 : d = 0
  · rw [emptyN_i h0, decide_eq_true_iff] at he
    dsimp only at he
    refine .inl ⟨h0, ?_⟩
    dsimp only
    rw [h0, len_nil he.1, len_nil he.2.1, len_nil he.2.2]
  · rw [emptyN_l h0, decide_eq_true_iff] at he
    dsimp only at he
    exact .inr ⟨h0, by dsimp only; rw [len_nil he]⟩
end Go.Proofs.Ytkmfjlfejdoehaa

set_option linter.unusedVariables false
set_option linter.unusedSimpArgs false
set_option maxRecDepth 8000
set_option maxHeartbeats 4000000
namespace Go.Proofs.Ytkmfjlfejdoehaa
open Go.Eng
def sNodeTells : PSpec := lawSpec [NdT, NdT]
theorem pNodeTells : PSound Try.prog 5 sNodeTells := by
  refine psound (T := tab) (S := (spOf [(19, sLightN.spec (lsOf [])), (20, sAwake16.spec (lsOf [])), (21, sOwnN.spec (lsOf [])), (22, sNKids.spec (lsOf [])), (23, sNFirst.spec (lsOf [])), (24, sNFirstR.spec (lsOf [])), (25, sNSame.spec (lsOf [])), (26, sNSameR.spec (lsOf []))])) (keep := k5) (by kernel_rfl) tabOk (spCons (pOk pLightN fLightN (by decide) lsNil) (spCons (pOk pAwake16 fAwake16 (by decide) lsNil) (spCons (pOk pOwnN fOwnN (by decide) lsNil) (spCons (pOk pNKids fNKids (by decide) lsNil) (spCons (pOk pNFirst fNFirst (by decide) lsNil) (spCons (pOk pNFirstR fNFirstR (by decide) lsNil) (spCons (pOk pNSame fNSame (by decide) lsNil) (spCons (pOk pNSameR fNSameR (by decide) lsNil) spNil)))))))) (by kernel_rfl) Try.func5 (by kernel_rfl) (by decide) fun xs hg hp => ?_
  obtain ⟨⟨d, l, ps, ks, bs⟩, ⟨d1, l1, ps1, ks1, bs1⟩, ⟨⟩⟩ := xs
  clear hp hg
  change Int at d d1
  change List Stk at l l1
  change List (List UInt8) at ps ps1
  change List Int at ks ks1
  change List (List Msg) at bs bs1
  show vfun tab _ k5 Try.f5 [.agg [.i .i64 d, .sl StT l, .sl .str ps, .sl (.int .i64) ks, .sl (.slice MsgT) bs], .agg [.i .i64 d1, .sl StT l1, .sl .str ps1, .sl (.int .i64) ks1, .sl (.slice MsgT) bs1]] [] _
  refine Ev.out ?_
  repeat' (first | ((with_reducible refine Ev.mk ?_); conv => whnf) | (with_reducible refine And.intro ?_ ?_) | (intro h))
  all_goals (try simp only [decide_eq_true_eq, decide_eq_false_iff_not, beq_iff_eq, bne_iff_ne, beq_eq_false_iff_ne, bne_eq_false_iff_eq, Int.toNat_natCast, ge_iff_le, gt_iff_lt, Bool.not_eq_true', Bool.not_eq_false', Int.not_lt, Int.not_le, ne_eq] at *)
  all_goals (try dsimp only [Ty.den, Ty.dflt, NdT, InT, SsT, sLightN, sNKids, sOwnN] at *)
  all_goals (try simp only [eq4, ne4, eq3, ne3, eq2, ne2, Prod.eta, List.length_cons, List.length_nil, List.length_append, Nat.zero_add] at *)
  all_goals (try simp (disch := omega) only [wrap64] at *)
  all_goals try first | exact leafDraw (by kernel_rfl) | exact Leaf.mk trivial | (refine Leaf.mk ?_; omega) | (refine Leaf.mk ?_; unfold maxLen; omega)
  all_goals first
    | exact Leaf.mk trivial
    | exact Leaf.mk rfl
    | exact absurd rfl h
    | skip
  all_goals
    have hL := lightN_pre ‹lightN (d, l, ps, ks, bs) = true›
    have hL1 := lightN_pre ‹lightN (d1, l1, ps1, ks1, bs1) = true›
    have hN := hL.1
    have hO := hL.2.2.2.2.2
    have hN1 := hL1.1
    have hO1 := hL1.2.2.2.2.2
    have hkl := hL.2.2.2.2.1
    dsimp only at hO hO1 hkl
    have hK0 : d = 0 → kidsN (d, l, ps, ks, bs) = [] := fun h => by rw [kidsN, if_pos h]
    have hK1 : ¬ d = 0 → kidsN (d, l, ps, ks, bs) = ks := fun h => by rw [kidsN, if_neg h]
  all_goals try first
    | exact Leaf.mk (show NPre (d, l, ps, ks, bs) from hN)
    | exact Leaf.mk (show NPre (d, l, ps, ks, bs) ∧ ∀ b ∈ bs, b.length ≤ 1000 from ⟨hN, fun b hb => by have := hO b hb; omega⟩)
  all_goals try
    have h9 : ¬ d = 0 := by assumption
    have h8 : d = 0 := by assumption
    exact absurd h8 h9
  all_goals try
    have h8 : d = 0 := by assumption
    simp only [hK0 h8, List.length_nil] at *
  all_goals try
    have h9 : ¬ d = 0 := by assumption
    simp only [hK1 h9] at *
  all_goals try first
    | exact absurd trivial ‹¬ True›
    | (exfalso; omega)
  · refine LoopVC.on (fun i : Nat => [(7, .i .i64 i)]) (fun _ => []) (fun i => i = 0) (fun i => 0) 0 rfl rfl ?_
    intro i hi
    subst hi
    repeat' (first | ((with_reducible refine Ev.mk ?_); conv => whnf) | (with_reducible refine And.intro ?_ ?_) | (intro h))
    all_goals (try simp only [decide_eq_true_eq, decide_eq_false_iff_not, beq_iff_eq, bne_iff_ne, beq_eq_false_iff_ne, bne_eq_false_iff_eq, Int.toNat_natCast, ge_iff_le, gt_iff_lt, Bool.not_eq_true', Bool.not_eq_false', Int.not_lt, Int.not_le, ne_eq] at *)
    all_goals (try dsimp only [Ty.den, Ty.dflt, NdT, InT, SsT] at *)
    all_goals (try simp only [eq4, ne4, eq3, ne3, eq2, ne2, Prod.eta, List.length_cons, List.length_nil, List.length_append, Nat.zero_add] at *)
    all_goals (try simp (disch := omega) only [wrap64] at *)
    all_goals try first | exact leafDraw (by kernel_rfl) | exact Leaf.mk trivial | (refine Leaf.mk ?_; omega) | (refine Leaf.mk ?_; unfold maxLen; omega)
    all_goals first
      | exact Leaf.mk trivial
      | exact Leaf.mk rfl
      | exact absurd rfl h
      | skip
    all_goals first
      | exact Leaf.mk ⟨i + 1, rfl, by omega, by omega⟩
      | exact Leaf.mk (show NPre (d, l, ps, ks, bs) from hN)
      | exact Leaf.mk (show NPre (d, l, ps, ks, bs) ∧ ∀ b ∈ bs, b.length ≤ 1000 from ⟨hN, fun b hb => by have := hO b hb; omega⟩)
      | exact Leaf.mk (show NPre (d1, l1, ps1, ks1, bs1) ∧ ∀ b ∈ bs1, b.length ≤ 1000 from ⟨hN1, fun b hb => by have := hO1 b hb; omega⟩)
      | exact absurd rfl ‹¬ (_ : Int) = _›
      | exact absurd trivial ‹¬ True›
      | (exfalso; omega)
      | skip
  · refine LoopVC.on (fun i : Nat => [(7, .i .i64 i)]) (fun _ => []) (fun i => i ≤ ks.length) (fun i => ks.length - i) 0 rfl (by omega) ?_
    intro i hi
    repeat' (first | ((with_reducible refine Ev.mk ?_); conv => whnf) | (with_reducible refine And.intro ?_ ?_) | (intro h))
    all_goals (try simp only [decide_eq_true_eq, decide_eq_false_iff_not, beq_iff_eq, bne_iff_ne, beq_eq_false_iff_ne, bne_eq_false_iff_eq, Int.toNat_natCast, ge_iff_le, gt_iff_lt, Bool.not_eq_true', Bool.not_eq_false', Int.not_lt, Int.not_le, ne_eq] at *)
    all_goals (try dsimp only [Ty.den, Ty.dflt, NdT, InT, SsT] at *)
    all_goals (try simp only [eq4, ne4, eq3, ne3, eq2, ne2, Prod.eta, List.length_cons, List.length_nil, List.length_append, Nat.zero_add] at *)
    all_goals (try simp (disch := omega) only [wrap64] at *)
    all_goals try first | exact leafDraw (by kernel_rfl) | exact Leaf.mk trivial | (refine Leaf.mk ?_; omega) | (refine Leaf.mk ?_; unfold maxLen; omega)
    all_goals first
      | exact Leaf.mk trivial
      | exact Leaf.mk rfl
      | exact absurd rfl h
      | skip
    all_goals first
      | exact Leaf.mk ⟨i + 1, rfl, by omega, by omega⟩
      | exact Leaf.mk (show NPre (d, l, ps, ks, bs) from hN)
      | exact Leaf.mk (show NPre (d, l, ps, ks, bs) ∧ ∀ b ∈ bs, b.length ≤ 1000 from ⟨hN, fun b hb => by have := hO b hb; omega⟩)
      | exact Leaf.mk (show NPre (d1, l1, ps1, ks1, bs1) ∧ ∀ b ∈ bs1, b.length ≤ 1000 from ⟨hN1, fun b hb => by have := hO1 b hb; omega⟩)
      | exact absurd rfl ‹¬ (_ : Int) = _›
      | exact absurd trivial ‹¬ True›
      | (exfalso; omega)
      | skip
end Go.Proofs.Ytkmfjlfejdoehaa
