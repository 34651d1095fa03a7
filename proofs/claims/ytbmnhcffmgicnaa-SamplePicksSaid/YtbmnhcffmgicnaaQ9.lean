import Derived.Test.YtbmnhcffmgicnaaQ8
import Derived.Test.YtbmnhcffmgicnaaEng6
/- Texts, one behind the other. -/
set_option linter.unusedVariables false
set_option linter.unusedSimpArgs false
set_option maxRecDepth 8000
set_option maxHeartbeats 4000000
namespace Go.Proofs.Ytbmnhcffmgicnaa
open Go.Eng
def sAfterS : PSpec := ⟨[.d .str, .d (.int .i64)], [⟨false, [.d .str]⟩], fun x => List.length x.1 ≤ 1000 ∧ (List.length x.1 : Int) < x.2.1 ∧ x.2.1 ≤ 1000, fun x => (((aftF x.1 x.2.1.toNat).1, ()), ())⟩
theorem pAfterS : PSound Try.prog 23 sAfterS := by
  refine psound (T := tab) (S := (spOf [])) (keep := k23) (by kernel_rfl) tabOk spNil (by kernel_rfl) Try.func23 (by kernel_rfl) (by decide) fun xs hg hp => ?_
  obtain ⟨a, n, ⟨⟩⟩ := xs
  change Str at a
  change Int at n
  change a.length ≤ 1000 ∧ (a.length : Int) < n ∧ n ≤ 1000 at hp
  obtain ⟨hp, hn0, hn⟩ := hp
  obtain ⟨n, rfl⟩ := Int.eq_ofNat_of_zero_le (show 0 ≤ n by omega)
  clear hg
  show vfun tab _ k23 Try.f23 [.s a, .i .i64 n] [] _
  refine Ev.out ?_
  repeat' (first | ((with_reducible refine Ev.mk ?_); conv => whnf) | (with_reducible refine And.intro ?_ ?_) | (intro h; (try simp only [beq_iff_eq, bne_iff_ne, beq_eq_false_iff_ne, bne_eq_false_iff_eq, decide_eq_true_eq, decide_eq_false_iff_not, ne_eq, Int.not_lt, Int.not_le, Bool.not_eq_true', Bool.not_eq_false'] at h); try (exfalso; omega)))
  all_goals (try simp only [decide_eq_true_eq, decide_eq_false_iff_not, beq_iff_eq, bne_iff_ne, beq_eq_false_iff_ne, bne_eq_false_iff_eq, Int.toNat_natCast, ge_iff_le, gt_iff_lt, Bool.not_eq_true', Bool.not_eq_false', Int.not_lt, Int.not_le, ne_eq] at *)
  all_goals (try dsimp only [Ty.den, Ty.dflt, StrT] at *)
  all_goals (try simp only [eq4, ne4, eq3, ne3, eq2, ne2, Prod.eta, List.length_cons, List.length_nil, List.length_append, Nat.zero_add] at *)
  all_goals (try simp (disch := omega) only [wrap64] at *)
  all_goals try first | exact leafDraw (by kernel_rfl) | exact Leaf.mk trivial | (refine Leaf.mk ?_; omega) | (refine Leaf.mk ?_; unfold maxLen; omega)
  · refine Leaf.mk ?_
    simp only [strOfBytes, List.length_map, List.length_replicate]
    unfold maxLen; omega
  · refine Leaf.mk (ret1 (show _ = (aftF a n).1 from ?_))
    rw [aftF_some (aft_short (by omega)), List.take_of_length_le (by rw [bytes_len]; omega), List.drop_replicate]
    have e1 : strOfBytes (bytesOfStr a ++ List.replicate (n - (a : List UInt8).length) 0) = strOfBytes (bytesOfStr a) ++ strOfBytes (List.replicate (n - (a : List UInt8).length) 0) := by unfold strOfBytes; rw [List.map_append]
    dsimp only
    rw [e1, str_bytes, show ((n : Int) - (List.length a : Int)).toNat = n - List.length a by omega]
theorem aft_bd (a : Str) (n : Nat) : (aftF a n).1.length ≤ n := by
  cases h : (aftF a n).2 with
  | true => rw [(aft_some h).1]; exact Nat.le_refl _
  | false =>
    unfold aftF at h ⊢
    cases e : aftI (bytesOfStr a) n with
    | some x => rw [e] at h; cases h
    | none => exact Nat.zero_le _
theorem aft_not {a : Str} {n : Nat} (h : (aftF a n).2 = false) : (aftF a n).1 = [] := by
  unfold aftF at h ⊢
  cases e : aftI (bytesOfStr a) n with
  | some x => rw [e] at h; cases h
  | none => rfl
theorem aft_yes {a : Str} {n : Nat} (h : ¬ (aftF a n).1 = []) : (aftF a n).2 = true := by
  cases e : (aftF a n).2 with
  | true => rfl
  | false => exact absurd (aft_not e) h
theorem aft_no2 {a : Str} {n : Nat} (hn : 1 ≤ n) (h : (aftF a n).1 = []) : (aftF a n).2 = false := by
  cases e : (aftF a n).2 with
  | false => rfl
  | true =>
    have := (aft_some e).1
    rw [h] at this
    simp at this; omega
def sAfter : PSpec := ⟨[.d .str, .d (.int .i64)], [⟨false, [.d .str]⟩], fun x => List.length x.1 ≤ 1000 ∧ 1 ≤ x.2.1 ∧ x.2.1 ≤ 1000, fun x => (((aftF x.1 x.2.1.toNat).1, ()), ())⟩
theorem fAfter : FnOk Try.prog 23 := ⟨_, Try.func23, by decide, rfl⟩
theorem pAfter : PSound Try.prog 23 sAfter := by
  intro w F xs vals hF hv hpre
  by_cases hc : (List.length xs.1 : Int) < xs.2.1
  · exact pAfterS w F xs vals hF hv ⟨hpre.1, hc, hpre.2.2⟩
  · obtain ⟨a, n, ⟨⟩⟩ := xs
    change Str at a
    change Int at n
    obtain ⟨h1, h2, h3⟩ := hpre
    change a.length ≤ 1000 at h1
    change 1 ≤ n at h2
    change n ≤ 1000 at h3
    change ¬ (List.length a : Int) < n at hc
    obtain ⟨n, rfl⟩ := Int.eq_ofNat_of_zero_le (show 0 ≤ n by omega)
    change RVs _ _ _ [.s a, .i .i64 n] _ at hv
    simp only [RVs, RV] at hv
    obtain ⟨x, _, rfl, ⟨rfl, -⟩, y, _, rfl, ⟨rfl, -⟩, rfl⟩ := hv
    refine (after_long a n (by omega) (by omega) h1 w).mono fun e w' h => ?_
    obtain ⟨rfl, hb⟩ := h
    refine ⟨_, Gh.at F, rfl, hb, fun _ h => h, fun _ h => .inl h, fun _ h => ⟨h, rfl⟩, fun _ h => .inl h, ?_, fun id o h => (by have h : lookN ([] : Eng.Heap) id = some o := h; simp [lookN] at h), fun id o _ _ _ h => (by have h : lookN ([] : Eng.Heap) id = some o := h; simp [lookN] at h)⟩
    show RV _ _ _ (.s (aftF a n).1) _
    simp only [RV]
    refine ⟨trivial, ?_⟩
    have := aft_bd a n
    unfold maxLen; omega
def sBetweenB : PSpec := sBetween
theorem fBetweenB : FnOk Try.prog 13 := ⟨_, Try.func13, by decide, rfl⟩
theorem pBetweenB : PSound Try.prog 13 sBetweenB := by
  refine psound (T := tab) (S := (spOf [(23, sAfter.spec (lsOf []))])) (keep := k13) (by kernel_rfl) tabOk (spCons (pOk pAfter fAfter (by decide) lsNil) spNil) (by kernel_rfl) Try.func13 (by kernel_rfl) (by decide) fun xs hg hp => ?_
  obtain ⟨a, b, ⟨⟩⟩ := xs
  change Str at a b
  change a.length ≤ 1000 ∧ b.length ≤ 1000 at hp
  clear hg
  show vfun tab _ k13 Try.f13 [.s a, .s b] [] _
  refine Ev.out ?_
  repeat' (first | ((with_reducible refine Ev.mk ?_); conv => whnf) | (with_reducible refine And.intro ?_ ?_) | (intro h))
  all_goals (try simp only [decide_eq_true_eq, decide_eq_false_iff_not, beq_iff_eq, bne_iff_ne, beq_eq_false_iff_ne, bne_eq_false_iff_eq, Int.toNat_natCast, ge_iff_le, gt_iff_lt, Bool.not_eq_true', Bool.not_eq_false', Int.not_lt, Int.not_le, ne_eq] at *)
  all_goals (try dsimp only [Ty.den, Ty.dflt, StrT] at *)
  all_goals (try simp only [eq4, ne4, eq3, ne3, eq2, ne2, Prod.eta, List.length_cons, List.length_nil, List.length_append, Nat.zero_add] at *)
  all_goals (try simp (disch := omega) only [wrap64] at *)
  all_goals try first | exact leafDraw (by kernel_rfl) | exact Leaf.mk trivial | (refine Leaf.mk ?_; omega) | (refine Leaf.mk ?_; unfold maxLen; omega)
  · exact Leaf.mk (ret1 (show b = betweenF a b by rw [betweenF, if_neg (by rw [h]; simp)]))
  have hB : betweenF a b = fromN a b 1 := if_pos h
  refine LoopVC.on (fun n : Nat => [(5, .i .i64 n)]) (fun _ => []) (fun n => (1 ≤ n ∧ n ≤ b.length + 1) ∧ fromN a b 1 = fromN a b n) (fun n => b.length + 1 - n) 1 rfl ⟨by omega, rfl⟩ ?_
  intro n ⟨hn, he⟩
  repeat' (first | ((with_reducible refine Ev.mk ?_); conv => whnf) | (with_reducible refine And.intro ?_ ?_) | (intro h))
  all_goals (try simp only [decide_eq_true_eq, decide_eq_false_iff_not, beq_iff_eq, bne_iff_ne, beq_eq_false_iff_ne, bne_eq_false_iff_eq, Int.toNat_natCast, ge_iff_le, gt_iff_lt, Bool.not_eq_true', Bool.not_eq_false', Int.not_lt, Int.not_le, ne_eq] at *)
  all_goals (try dsimp only [Ty.den, Ty.dflt, StrT, sAfter] at *)
  all_goals (try simp only [eq4, ne4, eq3, ne3, eq2, ne2, Prod.eta, List.length_cons, List.length_nil, List.length_append, Nat.zero_add] at *)
  all_goals (try simp (disch := omega) only [wrap64] at *)
  all_goals try first | exact leafDraw (by kernel_rfl) | exact Leaf.mk trivial | (refine Leaf.mk ?_; omega) | (refine Leaf.mk ?_; unfold maxLen; omega)
  all_goals try simp only [Int.toNat_natCast] at *
  · exact Leaf.mk (show (a : List UInt8).length ≤ 1000 ∧ 1 ≤ (n : Int) ∧ (n : Int) ≤ 1000 from ⟨hp.1, by omega, by omega⟩)
  all_goals first
    | (refine Leaf.mk (ret1 (show (aftF a n).1 = betweenF a b from ?_))
       rw [hB, he, fromN_yes (by omega) (ok_yes (aft_yes (by assumption)) (by assumption))])
    | exact Leaf.mk ⟨n + 1, rfl, ⟨by omega, by rw [he, fromN_no (by omega) (ok_no (by assumption))]⟩, by omega⟩
    | exact Leaf.mk ⟨n + 1, rfl, ⟨by omega, by rw [he, fromN_no (by omega) (ok_no' (aft_no2 (by omega) (by assumption)))]⟩, by omega⟩
    | (refine Leaf.mk (ret1 (show b = betweenF a b from ?_))
       rw [hB, he, show n = (b : List UInt8).length + 1 by omega, fromN_end])
end Go.Proofs.Ytbmnhcffmgicnaa

set_option linter.unusedVariables false
set_option linter.unusedSimpArgs false
set_option maxRecDepth 8000
set_option maxHeartbeats 4000000
namespace Go.Proofs.Ytbmnhcffmgicnaa
open Go.Eng
theorem same_notV {α : Type} [DecidableEq α] (d : α) {xs ys : List α} {i : Nat} (h : ¬ xs.getD i d = ys.getD i d) : ¬ xs = ys := fun hc => h (by rw [hc])
theorem same_stepV {α : Type} (d : α) {xs ys : List α} {i : Nat} (h : i < xs.length) (he : xs.take i = ys.take i) (h2 : i < ys.length) (hd : xs.getD i d = ys.getD i d) : xs.take (i + 1) = ys.take (i + 1) := by
  rw [take_at d h, take_at d h2, he, hd]
theorem same_endV {α : Type} {xs ys : List α} {i : Nat} (h : xs.length ≤ i) (he : xs.take i = ys.take i) (h2 : ys.length ≤ i) : xs = ys := by
  rwa [List.take_of_length_le h, List.take_of_length_le h2] at he
def sameV (a b : List Str) : Bool := decide (a = b)
theorem sameV_self {l : List Str} {p : Prop} (h : sameV l l = false) : p := by
  have : sameV l l = true := decide_eq_true rfl
  rw [this] at h; cases h
def sSameV : PSpec := ⟨[.d StrsT, .d StrsT], [⟨false, [.d .bool]⟩], fun _ => True, fun x => ((sameV x.1 x.2.1, ()), ())⟩
theorem fSameV : FnOk Try.prog 5 := ⟨_, Try.func5, by decide, rfl⟩
theorem pSameV : PSound Try.prog 5 sSameV := by
  refine psound (T := tab) (S := (spOf [])) (keep := k5) (by kernel_rfl) tabOk spNil (by kernel_rfl) Try.func5 (by kernel_rfl) (by decide) fun xs hg hp => ?_
  obtain ⟨xs, ys, ⟨⟩⟩ := xs
  obtain ⟨⟨hl, -⟩, ⟨hl2, -⟩, -⟩ := hg
  have hl := len63 hl
  have hl2 := len63 hl2
  change List (List UInt8) at xs ys
  change xs.length ≤ _ at hl
  change ys.length ≤ _ at hl2
  clear hp
  show vfun tab _ k5 Try.f5 [.sl .str xs, .sl .str ys] [] _
  refine Ev.out ?_
  repeat' (first | ((with_reducible refine Ev.mk ?_); conv => whnf) | (with_reducible refine And.intro ?_ ?_) | (intro h))
  all_goals (try simp only [decide_eq_true_eq, decide_eq_false_iff_not, beq_iff_eq, bne_iff_ne, beq_eq_false_iff_ne, bne_eq_false_iff_eq, Int.toNat_natCast, ge_iff_le, gt_iff_lt, Bool.not_eq_true', Bool.not_eq_false', Int.not_lt, Int.not_le, ne_eq] at *)
  all_goals (try dsimp only [Ty.den, Ty.dflt, StrsT] at *)
  all_goals (try simp only [eq4, ne4, eq3, ne3, eq2, ne2, Prod.eta, List.length_cons, List.length_nil, List.length_append, Nat.zero_add] at *)
  all_goals (try simp (disch := omega) only [wrap64] at *)
  all_goals try first | exact leafDraw (by kernel_rfl) | exact Leaf.mk trivial | (refine Leaf.mk ?_; omega) | (refine Leaf.mk ?_; unfold maxLen; omega)
  · refine Leaf.mk (ret1 (show false = decide (xs = ys) from ?_))
    rw [eq_comm, decide_eq_false_iff_not]; intro hc; subst hc; omega
  refine LoopVC.on (fun i : Nat => [(5, .i .i64 i)]) (fun _ => []) (fun i => i ≤ xs.length ∧ xs.take i = ys.take i) (fun i => xs.length - i) 0 rfl ⟨by omega, by simp⟩ ?_
  intro i ⟨hi, he⟩
  repeat' (first | ((with_reducible refine Ev.mk ?_); conv => whnf) | (with_reducible refine And.intro ?_ ?_) | (intro h))
  all_goals (try simp only [decide_eq_true_eq, decide_eq_false_iff_not, beq_iff_eq, bne_iff_ne, beq_eq_false_iff_ne, bne_eq_false_iff_eq, Int.toNat_natCast, ge_iff_le, gt_iff_lt, Bool.not_eq_true', Bool.not_eq_false', Int.not_lt, Int.not_le, ne_eq] at *)
  all_goals (try dsimp only [Ty.den, Ty.dflt, StrsT] at *)
  all_goals (try simp only [eq4, ne4, eq3, ne3, eq2, ne2, Prod.eta, List.length_cons, List.length_nil, List.length_append, Nat.zero_add] at *)
  all_goals (try simp (disch := omega) only [wrap64] at *)
  all_goals try first | exact leafDraw (by kernel_rfl) | exact Leaf.mk trivial | (refine Leaf.mk ?_; omega) | (refine Leaf.mk ?_; unfold maxLen; omega)
  all_goals first
    | exact Leaf.mk (ret1 (show false = decide (xs = ys) by rw [eq_comm, decide_eq_false_iff_not]; exact same_notV [] h))
    | exact Leaf.mk ⟨i + 1, rfl, ⟨by omega, same_stepV [] (by omega) he (by omega) h⟩, by omega⟩
    | exact Leaf.mk (ret1 (show true = decide (xs = ys) by rw [eq_comm, decide_eq_true_eq]; exact same_endV (by omega) he (by omega)))
def sSamplePicks : PSpec := lawSpec [StrsT, .int .i64, .pair .str .str]
theorem pSamplePicks : PSound Try.prog 3 sSamplePicks := by
  refine psoundW (T := tab) (S := (spOf [(4, sAwake33.spec (lsOf [])), (6, sSorted.spec (lsOf [])), (7, sSortedR.spec (lsOf [])), (5, sSameV.spec (lsOf [])), (8, sPivots.spec (lsOf [])), (9, sPivotsR.spec (lsOf [])), (10, sPlace33.spec (lsOf [])), (11, sPlace33R.spec (lsOf [])), (12, sBetween.spec (lsOf [])), (13, sBetweenB.spec (lsOf []))])) (keep := k3) 4 [(.slot 8, .frz)] (by kernel_rfl) tabOk (spCons (pOk pAwake33 fAwake33 (by decide) lsNil) (spCons (pOk pSorted fSorted (by decide) lsNil) (spCons (pOk pSortedR fSortedR (by decide) lsNil) (spCons (pOk pSameV fSameV (by decide) lsNil) (spCons (pOk pPivots fPivots (by decide) lsNil) (spCons (pOk pPivotsR fPivotsR (by decide) lsNil) (spCons (pOk pPlace33 fPlace33 (by decide) lsNil) (spCons (pOk pPlace33R fPlace33R (by decide) lsNil) (spCons (pOk pBetween fBetween (by decide) lsNil) (spCons (pOk pBetweenB fBetweenB (by decide) lsNil) spNil)))))))))) (by kernel_rfl) Try.func3 (by kernel_rfl) (by decide) fun xs hg hp => ?_
  obtain ⟨keys, n, ⟨a, b⟩, ⟨⟩⟩ := xs
  change List (List UInt8) at keys
  change Int at n
  change Str at a b
  clear hp hg
  show vfunW tab _ k3 Try.f3 4 [(.slot 8, .frz)] [.sl .str keys, .i .i64 n, .agg [.s a, .s b]] [] _
  refine Ev.out ?_
  repeat' (first | ((with_reducible refine Ev.mk ?_); conv => whnf) | (with_reducible refine And.intro ?_ ?_) | (intro h))
  all_goals (try simp only [decide_eq_true_eq, decide_eq_false_iff_not, beq_iff_eq, bne_iff_ne, beq_eq_false_iff_ne, bne_eq_false_iff_eq, Int.toNat_natCast, ge_iff_le, gt_iff_lt, Bool.not_eq_true', Bool.not_eq_false', Int.not_lt, Int.not_le, ne_eq] at *)
  all_goals (try dsimp only [Ty.den, Ty.dflt, StrsT, sSortedR, sSorted, sPivots, sSameV] at *)
  all_goals (try simp only [eq4, ne4, eq3, ne3, eq2, ne2, Prod.eta, List.length_cons, List.length_nil, List.length_append, Nat.zero_add] at *)
  all_goals (try simp (disch := omega) only [wrap64] at *)
  all_goals try first | exact leafDraw (by kernel_rfl) | exact Leaf.mk trivial | (refine Leaf.mk ?_; omega) | (refine Leaf.mk ?_; unfold maxLen; omega)
  all_goals try first
    | exact Leaf.mk rfl
  refine LoopVC.on (fun i : Nat => [(7, .i .i64 i)]) (fun _ => []) (fun i => i ≤ keys.length) (fun i => keys.length - i) 0 rfl (by omega) ?_
  intro i hi
  repeat' (first | ((with_reducible refine Ev.mk ?_); conv => whnf) | (with_reducible refine And.intro ?_ ?_) | (intro h))
  all_goals (try simp only [decide_eq_true_eq, decide_eq_false_iff_not, beq_iff_eq, bne_iff_ne, beq_eq_false_iff_ne, bne_eq_false_iff_eq, Int.toNat_natCast, ge_iff_le, gt_iff_lt, Bool.not_eq_true', Bool.not_eq_false', Int.not_lt, Int.not_le, ne_eq] at *)
  all_goals (try dsimp only [Ty.den, Ty.dflt, StrsT, sSortedR, sSorted, sPivots, sPivotsR, sPlace33, sPlace33R, sBetween, sBetweenB, sSameV] at *)
  all_goals (try simp only [eq4, ne4, eq3, ne3, eq2, ne2, Prod.eta, List.length_cons, List.length_nil, List.length_append, Nat.zero_add] at *)
  all_goals (try simp (disch := omega) only [wrap64] at *)
  all_goals try first | exact leafDraw (by kernel_rfl) | exact Leaf.mk trivial | (refine Leaf.mk ?_; omega) | (refine Leaf.mk ?_; unfold maxLen; omega)
  all_goals first
    | exact Leaf.mk rfl
    | exact Leaf.mk ⟨i + 1, rfl, by omega, by omega⟩
    | exact sameV_self (by assumption)
    | exact absurd trivial (by assumption)
    | exact absurd rfl (by assumption)
    | (refine Leaf.mk ?_; simp only [List.nil_append, List.length_append]; omega)
    | skip
end Go.Proofs.Ytbmnhcffmgicnaa
