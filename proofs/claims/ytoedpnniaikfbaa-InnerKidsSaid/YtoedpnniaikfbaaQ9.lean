import Derived.Test.YtoedpnniaikfbaaQ8
import Derived.Test.YtoedpnniaikfbaaQ6
import Derived.Test.YtoedpnniaikfbaaEng4
/- Texts, one behind the other. -/
set_option linter.unusedVariables false
set_option linter.unusedSimpArgs false
set_option maxRecDepth 8000
set_option maxHeartbeats 4000000
namespace Go.Proofs.Ytoedpnniaikfbaa
open Go.Eng
def lightI (n : Inn) : Bool := decide (n.1.length ≤ 10 ∧ n.2.1.length ≤ 10 ∧ n.2.2.length ≤ 10) && (n.1.all (fun p => decide (p.length ≤ 100)) && n.2.2.all (fun b => lightM b 30))
def sLightI : PSpec := ⟨[.d InT], [⟨false, [.d .bool]⟩], fun _ => True, fun x => ((lightI x.1, ()), ())⟩
theorem lightI_pre {n : Inn} (h : lightI n = true) : IPre n ∧ ∀ b ∈ n.2.2, b.length ≤ 30 := by
  simp only [lightI, Bool.and_eq_true, decide_eq_true_eq, List.all_eq_true] at h
  obtain ⟨⟨h1, h2, h3⟩, h4, h5⟩ := h
  have hb : ∀ b ∈ n.2.2, b.length ≤ 30 := fun b hb => by
    have := h5 b hb
    unfold lightM at this
    rw [Bool.and_eq_true, decide_eq_true_eq] at this
    omega
  have hf : n.2.2.flatten.length ≤ n.2.2.length * 30 := by
    have := flat_len2 (f := id) (m := 30) (l := n.2.2) hb
    rwa [List.flatMap_id] at this
  exact ⟨⟨by omega, fun p hp => by have := h4 p hp; omega, by omega, by omega, by omega⟩, hb⟩
theorem lightI_no {n : Inn} (h : (¬ (n.1.length ≤ 10 ∧ n.2.1.length ≤ 10 ∧ n.2.2.length ≤ 10)) ∨ (∃ i, i < n.1.length ∧ ¬ (n.1.getD i []).length ≤ 100) ∨ ∃ i, i < n.2.2.length ∧ lightM (n.2.2.getD i []) 30 = false) : lightI n = false := by
  apply Bool.eq_false_iff.2
  intro hc
  simp only [lightI, Bool.and_eq_true, decide_eq_true_eq, List.all_eq_true] at hc
  rcases h with h | ⟨i, hi, h⟩ | ⟨i, hi, h⟩
  · exact h hc.1
  · exact h (hc.2.1 _ (getD_mem (xs := n.1) [] hi))
  · rw [hc.2.2 _ (getD_mem (xs := n.2.2) [] hi)] at h; cases h
theorem all_getD {α : Type} {p : α → Bool} {l : List α} (d : α) (h : ∀ i, i < l.length → p (l.getD i d) = true) : l.all p = true := by
  rw [List.all_eq_true]
  intro x hx
  obtain ⟨i, hi, rfl⟩ := List.mem_iff_getElem.1 hx
  have := h i hi
  rwa [List.getD_eq_getElem?_getD, List.getElem?_eq_getElem hi] at this
theorem lightI_yes {n : Inn} (h : n.1.length ≤ 10 ∧ n.2.1.length ≤ 10 ∧ n.2.2.length ≤ 10) (h1 : ∀ i, i < n.1.length → (n.1.getD i []).length ≤ 100) (h2 : ∀ i, i < n.2.2.length → lightM (n.2.2.getD i []) 30 = true) : lightI n = true := by
  rw [lightI, decide_eq_true h, all_getD [] (fun i hi => decide_eq_true (h1 i hi)), all_getD [] h2]; rfl
theorem fLightI : FnOk Try.prog 37 := ⟨_, Try.func37, by decide, rfl⟩
theorem pLightI : PSound Try.prog 37 sLightI := by
  refine psound (T := tab) (S := (spOf [(14, sLightM.spec (lsOf []))])) (keep := k37) (by kernel_rfl) tabOk (spCons (pOk pLightM fLightM (by decide) lsNil) spNil) (by kernel_rfl) Try.func37 (by kernel_rfl) (by decide) fun xs hg hp => ?_
  obtain ⟨⟨ps, ks, bs⟩, ⟨⟩⟩ := xs
  obtain ⟨⟨⟨hlp, -⟩, -, ⟨hlb, -⟩⟩, -⟩ := hg
  change List (List UInt8) at ps
  change List Int at ks
  change List (List Msg) at bs
  have hlp := len63 hlp
  have hlb := len63 hlb
  clear hp
  show vfun tab _ k37 Try.f37 [.agg [.sl .str ps, .sl (.int .i64) ks, .sl (.slice MsgT) bs]] [] _
  refine Ev.out ?_
  repeat' (first | ((with_reducible refine Ev.mk ?_); conv => whnf) | (with_reducible refine And.intro ?_ ?_) | (intro h))
  all_goals (try simp only [decide_eq_true_eq, decide_eq_false_iff_not, beq_iff_eq, bne_iff_ne, beq_eq_false_iff_ne, bne_eq_false_iff_eq, Int.toNat_natCast, ge_iff_le, gt_iff_lt, Bool.not_eq_true', Bool.not_eq_false', Int.not_lt, Int.not_le, ne_eq] at *)
  all_goals (try dsimp only [Ty.den, Ty.dflt, InT] at *)
  all_goals (try simp only [eq4, ne4, eq3, ne3, eq2, ne2, Prod.eta, List.length_cons, List.length_nil, List.length_append, Nat.zero_add] at *)
  all_goals (try simp (disch := omega) only [wrap64] at *)
  all_goals try first | exact leafDraw (by kernel_rfl) | exact Leaf.mk trivial | (refine Leaf.mk ?_; omega) | (refine Leaf.mk ?_; unfold maxLen; omega)
  · exact Leaf.mk (ret1 (show false = lightI (ps, ks, bs) from (lightI_no (.inl (by dsimp only; omega))).symm))
  · exact Leaf.mk (ret1 (show false = lightI (ps, ks, bs) from (lightI_no (.inl (by dsimp only; omega))).symm))
  · exact Leaf.mk (ret1 (show false = lightI (ps, ks, bs) from (lightI_no (.inl (by dsimp only; omega))).symm))
  refine LoopVC.on (fun i : Nat => [(3, .i .i64 i)]) (fun _ => []) (fun i => i ≤ ps.length ∧ ∀ j, j < i → (ps.getD j []).length ≤ 100) (fun i => ps.length - i) 0 rfl ⟨by omega, fun j hj => by omega⟩ ?_
  intro i ⟨hi, ha⟩
  repeat' (first | ((with_reducible refine Ev.mk ?_); conv => whnf) | (with_reducible refine And.intro ?_ ?_) | (intro h))
  all_goals (try simp only [decide_eq_true_eq, decide_eq_false_iff_not, beq_iff_eq, bne_iff_ne, beq_eq_false_iff_ne, bne_eq_false_iff_eq, Int.toNat_natCast, ge_iff_le, gt_iff_lt, Bool.not_eq_true', Bool.not_eq_false', Int.not_lt, Int.not_le, ne_eq] at *)
  all_goals (try dsimp only [Ty.den, Ty.dflt, InT] at *)
  all_goals (try simp only [eq4, ne4, eq3, ne3, eq2, ne2, Prod.eta, List.length_cons, List.length_nil, List.length_append, Nat.zero_add] at *)
  all_goals (try simp (disch := omega) only [wrap64] at *)
  all_goals try first | exact leafDraw (by kernel_rfl) | exact Leaf.mk trivial | (refine Leaf.mk ?_; omega) | (refine Leaf.mk ?_; unfold maxLen; omega)
  · refine Leaf.mk (ret1 (show false = lightI (ps, ks, bs) from (lightI_no (.inr (.inl ⟨i, by dsimp only; omega, ?_⟩))).symm)); dsimp only; omega
  · refine Leaf.mk ⟨i + 1, rfl, ⟨by omega, fun j hj => ?_⟩, by omega⟩
    rcases Nat.lt_or_ge j i with hji | hji
    · exact ha j hji
    · obtain rfl : j = i := by omega
      omega
  refine LoopVC.on (fun i : Nat => [(4, .i .i64 i)]) (fun _ => []) (fun i => i ≤ bs.length ∧ ∀ j, j < i → lightM (bs.getD j []) 30 = true) (fun i => bs.length - i) 0 rfl ⟨by omega, fun j hj => by omega⟩ ?_
  intro k ⟨hk, hb⟩
  repeat' (first | ((with_reducible refine Ev.mk ?_); conv => whnf) | (with_reducible refine And.intro ?_ ?_) | (intro h))
  all_goals (try simp only [decide_eq_true_eq, decide_eq_false_iff_not, beq_iff_eq, bne_iff_ne, beq_eq_false_iff_ne, bne_eq_false_iff_eq, Int.toNat_natCast, ge_iff_le, gt_iff_lt, Bool.not_eq_true', Bool.not_eq_false', Int.not_lt, Int.not_le, ne_eq] at *)
  all_goals (try dsimp only [Ty.den, Ty.dflt, InT, sLightM] at *)
  all_goals (try simp only [eq4, ne4, eq3, ne3, eq2, ne2, Prod.eta, List.length_cons, List.length_nil, List.length_append, Nat.zero_add] at *)
  all_goals (try simp (disch := omega) only [wrap64] at *)
  all_goals try first | exact leafDraw (by kernel_rfl) | exact Leaf.mk trivial | (refine Leaf.mk ?_; omega) | (refine Leaf.mk ?_; unfold maxLen; omega)
  · exact Leaf.mk (ret1 (show false = lightI (ps, ks, bs) from (lightI_no (.inr (.inr ⟨k, by dsimp only; omega, ‹_›⟩))).symm))
  · refine Leaf.mk ⟨k + 1, rfl, ⟨by omega, fun j hj => ?_⟩, by omega⟩
    rcases Nat.lt_or_ge j k with hji | hji
    · exact hb j hji
    · obtain rfl : j = k := by omega
      assumption
  · refine Leaf.mk (ret1 (show true = lightI (ps, ks, bs) from (lightI_yes ⟨by dsimp only; omega, by dsimp only; omega, by dsimp only; omega⟩ (fun j hj => ha j (by dsimp only at hj; omega)) (fun j hj => hb j (by dsimp only at hj; omega))).symm))
theorem ipre_iff {n : Inn} : IPre n ↔ n.1.length ≤ 20 ∧ (∀ p ∈ n.1, p.length ≤ 1000) ∧ n.2.1.length ≤ 20 ∧ n.2.2.length ≤ 20 ∧ n.2.2.flatten.length ≤ 5000 := ⟨fun h => ⟨h.p, h.pt, h.k, h.b, h.m⟩, fun h => ⟨h.1, h.2.1, h.2.2.1, h.2.2.2.1, h.2.2.2.2⟩⟩
instance decIPre (n : Inn) : Decidable (IPre n) := decidable_of_iff _ ipre_iff.symm
theorem cp_all {α : Type} (d : α) (xs : List α) : xs.take (List.replicate xs.length d).length ++ (List.replicate xs.length d).drop xs.length = xs := by simp
def sOwnL : PSpec := ⟨[.d InT], [⟨true, [.d InT]⟩], fun x => IPre x.1, fun x => ((x.1, ()), ())⟩
theorem fOwnL : FnOk Try.prog 39 := ⟨_, Try.func39, by decide, rfl⟩
theorem pOwnL : PSound Try.prog 39 sOwnL := by
  refine psound (T := tab) (S := (spOf [])) (keep := k39) (by kernel_rfl) tabOk spNil (by kernel_rfl) Try.func39 (by kernel_rfl) (by decide) fun xs hg hp => ?_
  obtain ⟨⟨ps, ks, bs⟩, ⟨⟩⟩ := xs
  clear hg
  change List (List UInt8) at ps
  change List Int at ks
  change List (List Msg) at bs
  change IPre (ps, ks, bs) at hp
  have hpp := hp.p
  have hpk := hp.k
  have hpb := hp.b
  have hbl := fun i => hp.bl i
  dsimp only at hpp hpk hpb hbl
  show vfun tab _ k39 Try.f39 [.agg [.sl .str ps, .sl (.int .i64) ks, .sl (.slice MsgT) bs]] [] _
  refine Ev.out ?_
  repeat' (first | ((with_reducible refine Ev.mk ?_); conv => whnf) | (with_reducible refine And.intro ?_ ?_) | (intro h))
  all_goals (try simp only [decide_eq_true_eq, decide_eq_false_iff_not, beq_iff_eq, bne_iff_ne, beq_eq_false_iff_ne, bne_eq_false_iff_eq, Int.toNat_natCast, ge_iff_le, gt_iff_lt, Bool.not_eq_true', Bool.not_eq_false', Int.not_lt, Int.not_le, ne_eq] at *)
  all_goals (try dsimp only [Ty.den, Ty.dflt, InT] at *)
  all_goals (try simp only [eq4, ne4, eq3, ne3, eq2, ne2, Prod.eta, List.length_cons, List.length_nil, List.length_append, Nat.zero_add] at *)
  all_goals (try simp (disch := omega) only [wrap64] at *)
  all_goals try first | exact leafDraw (by kernel_rfl) | exact Leaf.mk trivial | (refine Leaf.mk ?_; omega) | (refine Leaf.mk ?_; unfold maxLen; omega)
  refine LoopVC.weak [(.cell 2 2, .nil 25 (.slice MsgT))] (fun i : Nat => [(4, .i .i64 i)]) (fun i => [(5, .arr 25 (.slice MsgT) (bs.take i))]) (fun i => i ≤ bs.length) (fun i => bs.length - i) 0 (Ev.mk ?_)
  (conv => whnf)
  refine ⟨Leaf.mk ?_, Leaf.mk ?_, ?_⟩
  · rfl
  · omega
  intro i hi
  repeat' (first | ((with_reducible refine Ev.mk ?_); conv => whnf) | (with_reducible refine And.intro ?_ ?_) | (intro h))
  all_goals (try simp only [decide_eq_true_eq, decide_eq_false_iff_not, beq_iff_eq, bne_iff_ne, beq_eq_false_iff_ne, bne_eq_false_iff_eq, Int.toNat_natCast, ge_iff_le, gt_iff_lt, Bool.not_eq_true', Bool.not_eq_false', Int.not_lt, Int.not_le, ne_eq] at *)
  all_goals (try dsimp only [Ty.den, Ty.dflt, InT] at *)
  all_goals (try simp only [eq4, ne4, eq3, ne3, eq2, ne2, Prod.eta, List.length_cons, List.length_nil, List.length_append, Nat.zero_add] at *)
  all_goals (try simp (disch := omega) only [wrap64] at *)
  all_goals try first | exact leafDraw (by kernel_rfl) | exact Leaf.mk trivial | (refine Leaf.mk ?_; omega) | (refine Leaf.mk ?_; unfold maxLen; omega)
  all_goals have htl : (bs.take i).length = i := by rw [List.length_take]; omega
  all_goals first
    | (refine Leaf.mk ?_; have := hbl i; omega)
    | (refine Leaf.mk ?_; have := hbl i; unfold maxLen; omega)
    | (refine Leaf.mk ?_; omega)
    | (refine Leaf.mk ?_; unfold maxLen; omega)
    | (refine Leaf.mk (Exists.intro (i + 1) ⟨?_, by omega, by omega⟩)
       rw [take_at [] (show i < bs.length by omega)]; first | rfl | (rw [cp_all]; rfl))
    | (have hbt : bs.take i = bs := List.take_of_length_le (by omega)
       rw [hbt]; exact Leaf.mk rfl)
    | skip
def sIOwn : PSpec := ⟨[.d InT], [⟨true, [.o 9 .str, .o 3 (.int .i64), .o 25 (.slice MsgT)]⟩], fun x => IPre x.1, fun x => ((x.1.1, (x.1.2.1, (x.1.2.2, ()))), ())⟩
theorem fIOwn : FnOk Try.prog 97 := ⟨_, Try.func97, by decide, rfl⟩
theorem pIOwn : PSound Try.prog 97 sIOwn := by
  refine psound (T := tab) (S := (spOf [])) (keep := k97) (by kernel_rfl) tabOk spNil (by kernel_rfl) Try.func97 (by kernel_rfl) (by decide) fun xs hg hp => ?_
  obtain ⟨⟨ps, ks, bs⟩, ⟨⟩⟩ := xs
  clear hg
  change List (List UInt8) at ps
  change List Int at ks
  change List (List Msg) at bs
  change IPre (ps, ks, bs) at hp
  have hpp := hp.p
  have hpk := hp.k
  have hpb := hp.b
  have hbl := fun i => hp.bl i
  dsimp only at hpp hpk hpb hbl
  show vfun tab _ k97 Try.f97 [.agg [.sl .str ps, .sl (.int .i64) ks, .sl (.slice MsgT) bs]] [] _
  refine Ev.out ?_
  repeat' (first | ((with_reducible refine Ev.mk ?_); conv => whnf) | (with_reducible refine And.intro ?_ ?_) | (intro h))
  all_goals (try simp only [decide_eq_true_eq, decide_eq_false_iff_not, beq_iff_eq, bne_iff_ne, beq_eq_false_iff_ne, bne_eq_false_iff_eq, Int.toNat_natCast, ge_iff_le, gt_iff_lt, Bool.not_eq_true', Bool.not_eq_false', Int.not_lt, Int.not_le, ne_eq] at *)
  all_goals (try dsimp only [Ty.den, Ty.dflt, InT] at *)
  all_goals (try simp only [eq4, ne4, eq3, ne3, eq2, ne2, Prod.eta, List.length_cons, List.length_nil, List.length_append, Nat.zero_add] at *)
  all_goals (try simp (disch := omega) only [wrap64] at *)
  all_goals try first | exact leafDraw (by kernel_rfl) | exact Leaf.mk trivial | (refine Leaf.mk ?_; omega) | (refine Leaf.mk ?_; unfold maxLen; omega)
  rw [cp_all, cp_all]
  refine LoopVC.weak [(.cell 1 2, .nil 25 (.slice MsgT))] (fun i : Nat => [(29, .i .i64 i)]) (fun i => [(4, .arr 25 (.slice MsgT) (bs.take i))]) (fun i => i ≤ bs.length) (fun i => bs.length - i) 0 (Ev.mk ?_)
  (conv => whnf)
  refine ⟨Leaf.mk ?_, Leaf.mk ?_, ?_⟩
  · rfl
  · omega
  intro i hi
  repeat' (first | ((with_reducible refine Ev.mk ?_); conv => whnf) | (with_reducible refine And.intro ?_ ?_) | (intro h))
  all_goals (try simp only [decide_eq_true_eq, decide_eq_false_iff_not, beq_iff_eq, bne_iff_ne, beq_eq_false_iff_ne, bne_eq_false_iff_eq, Int.toNat_natCast, ge_iff_le, gt_iff_lt, Bool.not_eq_true', Bool.not_eq_false', Int.not_lt, Int.not_le, ne_eq] at *)
  all_goals (try dsimp only [Ty.den, Ty.dflt, InT] at *)
  all_goals (try simp only [eq4, ne4, eq3, ne3, eq2, ne2, Prod.eta, List.length_cons, List.length_nil, List.length_append, Nat.zero_add] at *)
  all_goals (try simp (disch := omega) only [wrap64] at *)
  all_goals try first | exact leafDraw (by kernel_rfl) | exact Leaf.mk trivial | (refine Leaf.mk ?_; omega) | (refine Leaf.mk ?_; unfold maxLen; omega)
  all_goals have htl : (bs.take i).length = i := by rw [List.length_take]; omega
  all_goals first
    | (refine Leaf.mk ?_; have := hbl i; omega)
    | (refine Leaf.mk ?_; have := hbl i; unfold maxLen; omega)
    | (refine Leaf.mk ?_; omega)
    | (refine Leaf.mk ?_; unfold maxLen; omega)
    | (refine Leaf.mk (Exists.intro (i + 1) ⟨?_, by omega, by omega⟩)
       rw [take_at [] (show i < bs.length by omega)]; first | rfl | (rw [cp_all]; rfl))
    | (have hbt : bs.take i = bs := List.take_of_length_le (by omega)
       rw [hbt]; exact Leaf.mk rfl)
    | skip
end Go.Proofs.Ytoedpnniaikfbaa

set_option linter.unusedVariables false
set_option linter.unusedSimpArgs false
set_option maxRecDepth 8000
set_option maxHeartbeats 4000000
namespace Go.Proofs.Ytoedpnniaikfbaa
open Go.Eng
def sIOwnD : PSpec := ⟨[.d InT], [⟨true, [.d InT]⟩], fun x => IPre x.1, fun x => ((x.1, ()), ())⟩
theorem fIOwnD : FnOk Try.prog 97 := ⟨_, Try.func97, by decide, rfl⟩
theorem pIOwnD : PSound Try.prog 97 sIOwnD := by
  refine psound (T := tab) (S := (spOf [])) (keep := k97) (by kernel_rfl) tabOk spNil (by kernel_rfl) Try.func97 (by kernel_rfl) (by decide) fun xs hg hp => ?_
  obtain ⟨⟨ps, ks, bs⟩, ⟨⟩⟩ := xs
  clear hg
  change List (List UInt8) at ps
  change List Int at ks
  change List (List Msg) at bs
  change IPre (ps, ks, bs) at hp
  have hpp := hp.p
  have hpk := hp.k
  have hpb := hp.b
  have hbl := fun i => hp.bl i
  dsimp only at hpp hpk hpb hbl
  show vfun tab _ k97 Try.f97 [.agg [.sl .str ps, .sl (.int .i64) ks, .sl (.slice MsgT) bs]] [] _
  refine Ev.out ?_
  repeat' (first | ((with_reducible refine Ev.mk ?_); conv => whnf) | (with_reducible refine And.intro ?_ ?_) | (intro h))
  all_goals (try simp only [decide_eq_true_eq, decide_eq_false_iff_not, beq_iff_eq, bne_iff_ne, beq_eq_false_iff_ne, bne_eq_false_iff_eq, Int.toNat_natCast, ge_iff_le, gt_iff_lt, Bool.not_eq_true', Bool.not_eq_false', Int.not_lt, Int.not_le, ne_eq] at *)
  all_goals (try dsimp only [Ty.den, Ty.dflt, InT] at *)
  all_goals (try simp only [eq4, ne4, eq3, ne3, eq2, ne2, Prod.eta, List.length_cons, List.length_nil, List.length_append, Nat.zero_add] at *)
  all_goals (try simp (disch := omega) only [wrap64] at *)
  all_goals try first | exact leafDraw (by kernel_rfl) | exact Leaf.mk trivial | (refine Leaf.mk ?_; omega) | (refine Leaf.mk ?_; unfold maxLen; omega)
  rw [cp_all, cp_all]
  refine LoopVC.weak [(.cell 1 2, .nil 25 (.slice MsgT))] (fun i : Nat => [(29, .i .i64 i)]) (fun i => [(4, .arr 25 (.slice MsgT) (bs.take i))]) (fun i => i ≤ bs.length) (fun i => bs.length - i) 0 (Ev.mk ?_)
  (conv => whnf)
  refine ⟨Leaf.mk ?_, Leaf.mk ?_, ?_⟩
  · rfl
  · omega
  intro i hi
  repeat' (first | ((with_reducible refine Ev.mk ?_); conv => whnf) | (with_reducible refine And.intro ?_ ?_) | (intro h))
  all_goals (try simp only [decide_eq_true_eq, decide_eq_false_iff_not, beq_iff_eq, bne_iff_ne, beq_eq_false_iff_ne, bne_eq_false_iff_eq, Int.toNat_natCast, ge_iff_le, gt_iff_lt, Bool.not_eq_true', Bool.not_eq_false', Int.not_lt, Int.not_le, ne_eq] at *)
  all_goals (try dsimp only [Ty.den, Ty.dflt, InT] at *)
  all_goals (try simp only [eq4, ne4, eq3, ne3, eq2, ne2, Prod.eta, List.length_cons, List.length_nil, List.length_append, Nat.zero_add] at *)
  all_goals (try simp (disch := omega) only [wrap64] at *)
  all_goals try first | exact leafDraw (by kernel_rfl) | exact Leaf.mk trivial | (refine Leaf.mk ?_; omega) | (refine Leaf.mk ?_; unfold maxLen; omega)
  all_goals have htl : (bs.take i).length = i := by rw [List.length_take]; omega
  all_goals first
    | (refine Leaf.mk ?_; have := hbl i; omega)
    | (refine Leaf.mk ?_; have := hbl i; unfold maxLen; omega)
    | (refine Leaf.mk ?_; omega)
    | (refine Leaf.mk ?_; unfold maxLen; omega)
    | (refine Leaf.mk (Exists.intro (i + 1) ⟨?_, by omega, by omega⟩)
       rw [take_at [] (show i < bs.length by omega)]; first | rfl | (rw [cp_all]; rfl))
    | (have hbt : bs.take i = bs := List.take_of_length_le (by omega)
       rw [hbt]; exact Leaf.mk rfl)
    | skip
def sHas : PSpec := ⟨[.d InT, .d (.int .i64)], [⟨false, [.d .bool]⟩], fun x => IPre x.1, fun x => ((hasI x.1 x.2.1, ()), ())⟩
theorem hasI_iff {n : Inn} {i : Int} : hasI n i = true ↔ wholeI n = true ∧ 0 ≤ i ∧ i < (n.2.1.length : Int) := decide_eq_true_iff
theorem fHas : FnOk Try.prog 98 := ⟨_, Try.func98, by decide, rfl⟩
theorem pHas : PSound Try.prog 98 sHas := by
  refine psound (T := tab) (S := (spOf [(101, sWhole.spec (lsOf []))])) (keep := k98) (by kernel_rfl) tabOk (spCons (pOk pWhole fWhole (by decide) lsNil) spNil) (by kernel_rfl) Try.func98 (by kernel_rfl) (by decide) fun xs hg hp => ?_
  obtain ⟨⟨ps, ks, bs⟩, i, ⟨⟩⟩ := xs
  clear hg
  change List (List UInt8) at ps
  change List Int at ks
  change List (List Msg) at bs
  change Int at i
  change IPre (ps, ks, bs) at hp
  have hpp := hp.p
  have hpk := hp.k
  have hpb := hp.b
  have hbl := fun i => hp.bl i
  dsimp only at hpp hpk hpb hbl
  show vfun tab _ k98 Try.f98 [.agg [.sl .str ps, .sl (.int .i64) ks, .sl (.slice MsgT) bs], .i .i64 i] [] _
  refine Ev.out ?_
  repeat' (first | ((with_reducible refine Ev.mk ?_); conv => whnf) | (with_reducible refine And.intro ?_ ?_) | (intro h))
  all_goals (try simp only [decide_eq_true_eq, decide_eq_false_iff_not, beq_iff_eq, bne_iff_ne, beq_eq_false_iff_ne, bne_eq_false_iff_eq, Int.toNat_natCast, ge_iff_le, gt_iff_lt, Bool.not_eq_true', Bool.not_eq_false', Int.not_lt, Int.not_le, ne_eq] at *)
  all_goals (try dsimp only [Ty.den, Ty.dflt, InT, sWhole] at *)
  all_goals (try simp only [eq4, ne4, eq3, ne3, eq2, ne2, Prod.eta, List.length_cons, List.length_nil, List.length_append, Nat.zero_add] at *)
  all_goals (try simp (disch := omega) only [wrap64] at *)
  all_goals try first | exact leafDraw (by kernel_rfl) | exact Leaf.mk trivial | (refine Leaf.mk ?_; omega) | (refine Leaf.mk ?_; unfold maxLen; omega)
  all_goals
    refine Leaf.mk (ret1 (show _ = hasI (ps, ks, bs) i from ?_))
    rw [Bool.eq_iff_iff, hasI_iff]
    dsimp only
    simp_all
  omega
theorem retTk {u v : List Msg × Inn} (h : u = v) : (some ((u.1, ()), (u.2, ()), ()) : Option ((List Msg × Unit) × (Inn × Unit) × Unit)) = some ((v.1, ()), (v.2, ()), ()) := by rw [h]
theorem retIn {u v : Inn} (h : u = v) : (some ((u, ()), ()) : Option ((Inn × Unit) × Unit)) = some ((v, ()), ()) := by rw [h]
theorem not_of_false {b : Bool} (h : b = false) : ¬ b = true := by rw [h]; simp
def sITake : PSpec := ⟨[.d InT, .d (.int .i64)], [⟨false, [.d (.slice MsgT)]⟩, ⟨true, [.d InT]⟩], fun x => IPre x.1, fun x => (((takeI x.1 x.2.1).1, ()), ((takeI x.1 x.2.1).2, ()), ())⟩
theorem fITake : FnOk Try.prog 40 := ⟨_, Try.func40, by decide, rfl⟩
theorem pITake : PSound Try.prog 40 sITake := by
  refine psound (T := tab) (S := (spOf [(97, sIOwn.spec (lsOf [])), (98, sHas.spec (lsOf []))])) (keep := k40) (by kernel_rfl) tabOk (spCons (pOk pIOwn fIOwn (by decide) lsNil) (spCons (pOk pHas fHas (by decide) lsNil) spNil)) (by kernel_rfl) Try.func40 (by kernel_rfl) (by decide) fun xs hg hp => ?_
  obtain ⟨⟨ps, ks, bs⟩, i, ⟨⟩⟩ := xs
  clear hg
  change List (List UInt8) at ps
  change List Int at ks
  change List (List Msg) at bs
  change Int at i
  change IPre (ps, ks, bs) at hp
  have hpp := hp.p
  have hpk := hp.k
  have hpb := hp.b
  have hbl := fun i => hp.bl i
  dsimp only at hpp hpk hpb hbl
  show vfun tab _ k40 Try.f40 [.agg [.sl .str ps, .sl (.int .i64) ks, .sl (.slice MsgT) bs], .i .i64 i] [] _
  refine Ev.out ?_
  repeat' (first | ((with_reducible refine Ev.mk ?_); conv => whnf) | (with_reducible refine And.intro ?_ ?_) | (intro h))
  all_goals (try simp only [decide_eq_true_eq, decide_eq_false_iff_not, beq_iff_eq, bne_iff_ne, beq_eq_false_iff_ne, bne_eq_false_iff_eq, Int.toNat_natCast, ge_iff_le, gt_iff_lt, Bool.not_eq_true', Bool.not_eq_false', Int.not_lt, Int.not_le, ne_eq] at *)
  all_goals (try dsimp only [Ty.den, Ty.dflt, InT, sIOwn, sHas] at *)
  all_goals (try simp only [eq4, ne4, eq3, ne3, eq2, ne2, Prod.eta, List.length_cons, List.length_nil, List.length_append, Nat.zero_add] at *)
  all_goals (try simp (disch := omega) only [wrap64] at *)
  all_goals try first | exact leafDraw (by kernel_rfl) | exact Leaf.mk trivial | (refine Leaf.mk ?_; omega) | (refine Leaf.mk ?_; unfold maxLen; omega)
  · refine Leaf.mk (retTk (u := ([], (ps, ks, bs))) (v := takeI (ps, ks, bs) i) ?_)
    rw [takeI, if_neg (not_of_false ‹_›)]
  all_goals
    obtain ⟨hw, hi0, hi1⟩ := hasI_iff.1 (show hasI (ps, ks, bs) i = true from ‹_›)
    obtain ⟨w1, w2⟩ := wholeI_iff.1 hw
    dsimp only at hi1 w1 w2
  all_goals first
    | (refine Leaf.mk ?_; omega)
    | (refine Leaf.mk (retTk (u := (bs.getD i.toNat [], (ps, ks, bs.set i.toNat []))) (v := takeI (ps, ks, bs) i) ?_)
       rw [takeI, if_pos ‹_›])
def sIRenew : PSpec := ⟨[.d InT, .d (.int .i64), .d (.int .i64)], [⟨true, [.d InT]⟩], fun x => IPre x.1, fun x => ((renewI x.1 x.2.1 x.2.2.1, ()), ())⟩
theorem fIRenew : FnOk Try.prog 47 := ⟨_, Try.func47, by decide, rfl⟩
theorem pIRenew : PSound Try.prog 47 sIRenew := by
  refine psound (T := tab) (S := (spOf [(97, sIOwn.spec (lsOf [])), (98, sHas.spec (lsOf []))])) (keep := k47) (by kernel_rfl) tabOk (spCons (pOk pIOwn fIOwn (by decide) lsNil) (spCons (pOk pHas fHas (by decide) lsNil) spNil)) (by kernel_rfl) Try.func47 (by kernel_rfl) (by decide) fun xs hg hp => ?_
  obtain ⟨n, i, kid, ⟨⟩⟩ := xs
  obtain ⟨ps, ks, bs⟩ := n
  clear hg
  change List (List UInt8) at ps
  change List Int at ks
  change List (List Msg) at bs
  change Int at i kid
  change IPre (ps, ks, bs) at hp
  have hpk := hp.k
  dsimp only at hpk
  show vfun tab _ k47 Try.f47 [.agg [.sl .str ps, .sl (.int .i64) ks, .sl (.slice MsgT) bs], .i .i64 i, .i .i64 kid] [] _
  refine Ev.out ?_
  repeat' (first | ((with_reducible refine Ev.mk ?_); conv => whnf) | (with_reducible refine And.intro ?_ ?_) | (intro h))
  all_goals (try simp only [decide_eq_true_eq, decide_eq_false_iff_not, beq_iff_eq, bne_iff_ne, beq_eq_false_iff_ne, bne_eq_false_iff_eq, Int.toNat_natCast, ge_iff_le, gt_iff_lt, Bool.not_eq_true', Bool.not_eq_false', Int.not_lt, Int.not_le, ne_eq] at *)
  all_goals (try dsimp only [Ty.den, Ty.dflt, InT, sIOwn, sHas] at *)
  all_goals (try simp only [eq4, ne4, eq3, ne3, eq2, ne2, Prod.eta, List.length_cons, List.length_nil, List.length_append, Nat.zero_add] at *)
  all_goals (try simp (disch := omega) only [wrap64] at *)
  all_goals try first | exact leafDraw (by kernel_rfl) | exact Leaf.mk trivial | (refine Leaf.mk ?_; omega) | (refine Leaf.mk ?_; unfold maxLen; omega)
  rotate_left 4
  · refine Leaf.mk (retIn (u := (ps, ks, bs)) (v := renewI (ps, ks, bs) i kid) ?_)
    rw [renewI, if_neg (not_of_false (show hasI (ps, ks, bs) i = false by assumption))]
  all_goals
    obtain ⟨hw, hi0, hi1⟩ := hasI_iff.1 (show hasI (ps, ks, bs) i = true from ‹_›)
    obtain ⟨w1, w2⟩ := wholeI_iff.1 hw
    dsimp only at hi1 w1 w2
  all_goals first
    | (refine Leaf.mk ?_; omega)
    | (refine Leaf.mk (retIn (u := (ps, ks.set i.toNat kid, bs)) (v := renewI (ps, ks, bs) i kid) ?_)
       rw [renewI, if_pos (show hasI (ps, ks, bs) i = true by assumption)])
theorem wrapHalf {n : Nat} (h : n ≤ 1000) : IntKind.i64.wrap ((n : Int).tdiv 2) = ((n / 2 : Nat) : Int) := by
  rw [Int.tdiv_eq_ediv_of_nonneg (by omega), show ((n : Int) / 2) = ((n / 2 : Nat) : Int) by omega]
  exact wrap64 (by omega)
theorem retSp {u v : Inn × Inn × List UInt8} (h : u = v) : (some ((u.1, ()), (u.2.1, ()), (u.2.2, ()), ()) : Option ((Inn × Unit) × (Inn × Unit) × (List UInt8 × Unit) × Unit)) = some ((v.1, ()), (v.2.1, ()), (v.2.2, ()), ()) := by rw [h]
theorem ipre_cut {ps : List (List UInt8)} {ks : List Int} {bs : List (List Msg)} (h : IPre (ps, ks, bs)) (a b c d e f : Nat) : IPre ((ps.take a).drop b, (ks.take c).drop d, (bs.take e).drop f) := by
  have hm := h.m
  dsimp only at hm
  have h1 := flat_le (xs := bs) e
  have h2 : ((bs.take e).drop f).flatten.length ≤ (bs.take e).flatten.length := by
    conv => rhs; rw [← List.take_append_drop f (bs.take e), List.flatten_append, List.length_append]
    omega
  have hp := h.p; have hk := h.k; have hb := h.b
  dsimp only at hp hk hb
  refine ⟨?_, fun p hp => h.pt p (List.mem_of_mem_take (List.mem_of_mem_drop hp)), ?_, ?_, ?_⟩
  · simp only [List.length_drop, List.length_take]; omega
  · simp only [List.length_drop, List.length_take]; omega
  · simp only [List.length_drop, List.length_take]; omega
  · dsimp only; omega
def sISplit : PSpec := ⟨[.d InT], [⟨true, [.d InT]⟩, ⟨true, [.d InT]⟩, ⟨false, [.d .str]⟩], fun x => IPre x.1, fun x => (((splitI x.1).1, ()), ((splitI x.1).2.1, ()), ((splitI x.1).2.2, ()), ())⟩
theorem fISplit : FnOk Try.prog 42 := ⟨_, Try.func42, by decide, rfl⟩
theorem pISplit : PSound Try.prog 42 sISplit := by
  refine psound (T := tab) (S := (spOf [(97, sIOwnD.spec (lsOf [])), (101, sWhole.spec (lsOf []))])) (keep := k42) (by kernel_rfl) tabOk (spCons (pOk pIOwnD fIOwnD (by decide) lsNil) (spCons (pOk pWhole fWhole (by decide) lsNil) spNil)) (by kernel_rfl) Try.func42 (by kernel_rfl) (by decide) fun xs hg hp => ?_
  obtain ⟨⟨ps, ks, bs⟩, ⟨⟩⟩ := xs
  clear hg
  change List (List UInt8) at ps
  change List Int at ks
  change List (List Msg) at bs
  change IPre (ps, ks, bs) at hp
  have hpp := hp.p
  have hpk := hp.k
  have hpb := hp.b
  have hbl := fun i => hp.bl i
  dsimp only at hpp hpk hpb hbl
  show vfun tab _ k42 Try.f42 [.agg [.sl .str ps, .sl (.int .i64) ks, .sl (.slice MsgT) bs]] [] _
  refine Ev.out ?_
  repeat' (first | ((with_reducible refine Ev.mk ?_); conv => whnf) | (with_reducible refine And.intro ?_ ?_) | (intro h))
  all_goals (try simp only [decide_eq_true_eq, decide_eq_false_iff_not, beq_iff_eq, bne_iff_ne, beq_eq_false_iff_ne, bne_eq_false_iff_eq, Int.toNat_natCast, ge_iff_le, gt_iff_lt, Bool.not_eq_true', Bool.not_eq_false', Int.not_lt, Int.not_le, ne_eq] at *)
  all_goals (try dsimp only [Ty.den, Ty.dflt, InT, sIOwnD, sWhole] at *)
  all_goals (try simp only [eq4, ne4, eq3, ne3, eq2, ne2, Prod.eta, List.length_cons, List.length_nil, List.length_append, Nat.zero_add] at *)
  all_goals (try simp (disch := omega) only [wrap64] at *)
  all_goals try first | exact leafDraw (by kernel_rfl) | exact Leaf.mk trivial | (refine Leaf.mk ?_; omega) | (refine Leaf.mk ?_; unfold maxLen; omega)
  all_goals first
    | exact Leaf.mk hp
    | exact Leaf.mk (ipre_cut hp _ _ _ _ _ _)
    | (refine Leaf.mk (retSp (u := ((ps, ks, bs), ([], [], []), [])) (v := splitI (ps, ks, bs)) ?_)
       rw [splitI, if_neg (fun hc => by have h1 := hc.1; rw [show wholeI (ps, ks, bs) = false by assumption] at h1; cases h1)]; done)
    | (refine Leaf.mk (retSp (u := ((ps, ks, bs), ([], [], []), [])) (v := splitI (ps, ks, bs)) ?_)
       rw [splitI, if_neg (fun hc => by have h1 := hc.2; dsimp only at h1; omega)]; done)
    | skip
  all_goals
    have hw := wholeI_iff.1 (show wholeI (ps, ks, bs) = true by assumption)
    have w1 := hw.1
    have w2 := hw.2
    dsimp only at w1 w2
    have e1 := wrapHalf (n := ks.length) (by omega)
    have e2 : IntKind.i64.wrap (((ks.length / 2 : Nat) : Int) - 1) = ((ks.length / 2 - 1 : Nat) : Int) := by rw [wrap64 (by omega)]; omega
    rw [e1]
    try rw [e2]
  all_goals first
    | (refine Leaf.mk ?_; omega)
    | (refine Leaf.mk ?_; unfold maxLen; omega)
    | skip
  all_goals
    refine Leaf.mk (retSp (u := ((_, _, _), (_, _, _), _)) (v := splitI (ps, ks, bs)) ?_)
    rw [splitI, if_pos ⟨by assumption, by dsimp only; omega⟩]
    simp only [Int.toNat_natCast, List.take_length, Int.toNat_zero, List.drop_zero]
    all_goals rfl
def wsum (l : List Msg) : Int := ((l.flatMap pm).length : Nat)
theorem wsum_at {l : List Msg} {j : Nat} (h : j < l.length) : wsum (l.take (j + 1)) = wsum (l.take j) + ((pm (l.getD j msg0)).length : Nat) := by
  rw [wsum, flat_at2 msg0 h, List.length_append, wsum]; omega
theorem wsum_le {l : List Msg} (h : l.length ≤ 5000) (j : Nat) : 0 ≤ wsum (l.take j) ∧ wsum (l.take j) ≤ 520000 := by
  have := pms_len (l.take j)
  have h2 : (l.take j).length ≤ 5000 := by rw [List.length_take]; omega
  have h3 : (l.take j).length * 104 ≤ 5000 * 104 := Nat.mul_le_mul_right _ h2
  rw [wsum]; omega
def sWeigh : PSpec := ⟨[.d InT, .d (.int .i64)], [⟨false, [.d (.int .i64)]⟩], fun x => IPre x.1, fun x => ((weighI x.1 x.2.1, ()), ())⟩
theorem fWeigh : FnOk Try.prog 54 := ⟨_, Try.func54, by decide, rfl⟩
theorem pWeigh : PSound Try.prog 54 sWeigh := by
  refine psound (T := tab) (S := (spOf [(98, sHas.spec (lsOf [])), (35, sMSize.spec (lsOf []))])) (keep := k54) (by kernel_rfl) tabOk (spCons (pOk pHas fHas (by decide) lsNil) (spCons (pOk pMSize fMSize (by decide) lsNil) spNil)) (by kernel_rfl) Try.func54 (by kernel_rfl) (by decide) fun xs hg hp => ?_
  obtain ⟨⟨ps, ks, bs⟩, i, ⟨⟩⟩ := xs
  clear hg
  change List (List UInt8) at ps
  change List Int at ks
  change List (List Msg) at bs
  change Int at i
  change IPre (ps, ks, bs) at hp
  have hpp := hp.p
  have hpk := hp.k
  have hpb := hp.b
  have hbl := fun i => hp.bl i
  dsimp only at hpp hpk hpb hbl
  show vfun tab _ k54 Try.f54 [.agg [.sl .str ps, .sl (.int .i64) ks, .sl (.slice MsgT) bs], .i .i64 i] [] _
  refine Ev.out ?_
  repeat' (first | ((with_reducible refine Ev.mk ?_); conv => whnf) | (with_reducible refine And.intro ?_ ?_) | (intro h))
  all_goals (try simp only [decide_eq_true_eq, decide_eq_false_iff_not, beq_iff_eq, bne_iff_ne, beq_eq_false_iff_ne, bne_eq_false_iff_eq, Int.toNat_natCast, ge_iff_le, gt_iff_lt, Bool.not_eq_true', Bool.not_eq_false', Int.not_lt, Int.not_le, ne_eq] at *)
  all_goals (try dsimp only [Ty.den, Ty.dflt, InT, sHas] at *)
  all_goals (try simp only [eq4, ne4, eq3, ne3, eq2, ne2, Prod.eta, List.length_cons, List.length_nil, List.length_append, Nat.zero_add] at *)
  all_goals (try simp (disch := omega) only [wrap64] at *)
  all_goals try first | exact leafDraw (by kernel_rfl) | exact Leaf.mk trivial | (refine Leaf.mk ?_; omega) | (refine Leaf.mk ?_; unfold maxLen; omega)
  · refine Leaf.mk (ret1 (show (0 : Int) = weighI (ps, ks, bs) i from ?_))
    rw [weighI, if_neg (not_of_false (show hasI (ps, ks, bs) i = false by assumption))]
  all_goals
    obtain ⟨hw, hi0, hi1⟩ := hasI_iff.1 (show hasI (ps, ks, bs) i = true from ‹_›)
    obtain ⟨w1, w2⟩ := wholeI_iff.1 hw
    dsimp only at hi1 w1 w2
  all_goals first
    | (refine Leaf.mk ?_; omega)
    | skip
  have hl := hbl i.toNat
  have hw : weighI (ps, ks, bs) i = wsum (bs.getD i.toNat []) := by rw [weighI, if_pos (show hasI (ps, ks, bs) i = true by assumption)]; rfl
  refine LoopVC.on (fun j : Nat => [(5, .i .i64 (wsum ((bs.getD i.toNat []).take j))), (18, .i .i64 j)]) (fun _ => []) (fun j => j ≤ (bs.getD i.toNat []).length) (fun j => (bs.getD i.toNat []).length - j) 0 rfl (by omega) ?_
  intro j hj
  have hsl := wsum_le hl j
  have hat := fun h => wsum_at (l := bs.getD i.toNat []) (j := j) h
  have hpl := pm_len ((bs.getD i.toNat []).getD j msg0)
  repeat' (first | ((with_reducible refine Ev.mk ?_); conv => whnf) | (with_reducible refine And.intro ?_ ?_) | (intro h))
  all_goals (try simp only [decide_eq_true_eq, decide_eq_false_iff_not, beq_iff_eq, bne_iff_ne, beq_eq_false_iff_ne, bne_eq_false_iff_eq, Int.toNat_natCast, ge_iff_le, gt_iff_lt, Bool.not_eq_true', Bool.not_eq_false', Int.not_lt, Int.not_le, ne_eq] at *)
  all_goals (try dsimp only [Ty.den, Ty.dflt, InT, sMSize] at *)
  all_goals (try simp only [eq4, ne4, eq3, ne3, eq2, ne2, Prod.eta, List.length_cons, List.length_nil, List.length_append, Nat.zero_add] at *)
  all_goals (try simp (disch := omega) only [wrap64] at *)
  all_goals try first | exact leafDraw (by kernel_rfl) | exact Leaf.mk trivial | (refine Leaf.mk ?_; omega) | (refine Leaf.mk ?_; unfold maxLen; omega)
  · have hpe : ((putR12 ((bs.getD i.toNat []).getD j msg0)).fst.length : Int) = ((pm ((bs.getD i.toNat []).getD j msg0)).length : Nat) := rfl
    refine Leaf.mk (Exists.intro (j + 1) ⟨?_, by omega, by omega⟩)
    rw [hat (by omega)]
    have e9 : IntKind.i64.wrap (wsum ((bs.getD i.toNat []).take j) + ((putR12 ((bs.getD i.toNat []).getD j msg0)).fst.length : Int)) = wsum ((bs.getD i.toNat []).take j) + ((pm ((bs.getD i.toNat []).getD j msg0)).length : Nat) := by rw [hpe]; exact wrap64 (by omega)
    erw [e9]; rfl
  · refine Leaf.mk (ret1 (show wsum ((bs.getD i.toNat []).take j) = weighI (ps, ks, bs) i from ?_))
    rw [hw, List.take_of_length_le (by omega)]
def sFullest : PSpec := ⟨[.d InT], [⟨false, [.d (.int .i64)]⟩], fun x => IPre x.1, fun x => ((fullestI x.1, ()), ())⟩
theorem fFullest : FnOk Try.prog 95 := ⟨_, Try.func95, by decide, rfl⟩
theorem pFullest : PSound Try.prog 95 sFullest := by
  refine psound (T := tab) (S := (spOf [(54, sWeigh.spec (lsOf []))])) (keep := k95) (by kernel_rfl) tabOk (spCons (pOk pWeigh fWeigh (by decide) lsNil) spNil) (by kernel_rfl) Try.func95 (by kernel_rfl) (by decide) fun xs hg hp => ?_
  obtain ⟨⟨ps, ks, bs⟩, ⟨⟩⟩ := xs
  clear hg
  change List (List UInt8) at ps
  change List Int at ks
  change List (List Msg) at bs
  change IPre (ps, ks, bs) at hp
  have hpp := hp.p
  have hpk := hp.k
  have hpb := hp.b
  have hbl := fun i => hp.bl i
  dsimp only at hpp hpk hpb hbl
  show vfun tab _ k95 Try.f95 [.agg [.sl .str ps, .sl (.int .i64) ks, .sl (.slice MsgT) bs]] [] _
  refine Ev.out ?_
  repeat' (first | ((with_reducible refine Ev.mk ?_); conv => whnf) | (with_reducible refine And.intro ?_ ?_) | (intro h))
  all_goals (try simp only [decide_eq_true_eq, decide_eq_false_iff_not, beq_iff_eq, bne_iff_ne, beq_eq_false_iff_ne, bne_eq_false_iff_eq, Int.toNat_natCast, ge_iff_le, gt_iff_lt, Bool.not_eq_true', Bool.not_eq_false', Int.not_lt, Int.not_le, ne_eq] at *)
  all_goals (try dsimp only [Ty.den, Ty.dflt, InT, sWeigh] at *)
  all_goals (try simp only [eq4, ne4, eq3, ne3, eq2, ne2, Prod.eta, List.length_cons, List.length_nil, List.length_append, Nat.zero_add] at *)
  all_goals (try simp (disch := omega) only [wrap64] at *)
  all_goals try first | exact leafDraw (by kernel_rfl) | exact Leaf.mk trivial | (refine Leaf.mk ?_; omega) | (refine Leaf.mk ?_; unfold maxLen; omega)
  refine LoopVC.on (fun i : Nat => [(3, .i .i64 (fullN (ps, ks, bs) i).1), (4, .i .i64 (fullN (ps, ks, bs) i).2), (10, .i .i64 i)]) (fun _ => []) (fun i => i ≤ ks.length) (fun i => ks.length - i) 0 rfl (by omega) ?_
  intro i hi
  repeat' (first | ((with_reducible refine Ev.mk ?_); conv => whnf) | (with_reducible refine And.intro ?_ ?_) | (intro h))
  all_goals (try simp only [decide_eq_true_eq, decide_eq_false_iff_not, beq_iff_eq, bne_iff_ne, beq_eq_false_iff_ne, bne_eq_false_iff_eq, Int.toNat_natCast, ge_iff_le, gt_iff_lt, Bool.not_eq_true', Bool.not_eq_false', Int.not_lt, Int.not_le, ne_eq] at *)
  all_goals (try dsimp only [Ty.den, Ty.dflt, InT, sWeigh] at *)
  all_goals (try simp only [eq4, ne4, eq3, ne3, eq2, ne2, Prod.eta, List.length_cons, List.length_nil, List.length_append, Nat.zero_add] at *)
  all_goals (try simp (disch := omega) only [wrap64] at *)
  all_goals try first | exact leafDraw (by kernel_rfl) | exact Leaf.mk trivial | (refine Leaf.mk ?_; omega) | (refine Leaf.mk ?_; unfold maxLen; omega)
  all_goals first
    | exact Leaf.mk hp
    | (refine Leaf.mk (Exists.intro (i + 1) ⟨?_, by omega, by omega⟩)
       rw [fullN, if_pos (show weighI (ps, ks, bs) i > (fullN (ps, ks, bs) i).2 by assumption)]; rfl)
    | (refine Leaf.mk (Exists.intro (i + 1) ⟨?_, by omega, by omega⟩)
       rw [fullN, if_neg (show ¬ weighI (ps, ks, bs) i > (fullN (ps, ks, bs) i).2 by omega)]; rfl)
    | (refine Leaf.mk (ret1 (show (fullN (ps, ks, bs) i).1 = fullestI (ps, ks, bs) from ?_))
       obtain rfl : i = ks.length := by omega
       rfl)
    | skip
theorem retBo {a b c d : List UInt8} (h1 : a = c) (h2 : b = d) : (some ((a, ()), (b, ()), ()) : Option ((List UInt8 × Unit) × (List UInt8 × Unit) × Unit)) = some ((c, ()), (d, ()), ()) := by rw [h1, h2]
def sBounds : PSpec := ⟨[.d InT, .d (.int .i64)], [⟨false, [.d .str]⟩, ⟨false, [.d .str]⟩], fun x => IPre x.1, fun x => ((loI x.1 x.2.1, ()), (hiI x.1 x.2.1, ()), ())⟩
theorem fBounds : FnOk Try.prog 52 := ⟨_, Try.func52, by decide, rfl⟩
theorem pBounds : PSound Try.prog 52 sBounds := by
  refine psound (T := tab) (S := (spOf [])) (keep := k52) (by kernel_rfl) tabOk spNil (by kernel_rfl) Try.func52 (by kernel_rfl) (by decide) fun xs hg hp => ?_
  obtain ⟨⟨ps, ks, bs⟩, i, ⟨⟩⟩ := xs
  clear hg
  change List (List UInt8) at ps
  change List Int at ks
  change List (List Msg) at bs
  change Int at i
  change IPre (ps, ks, bs) at hp
  have hpp := hp.p
  have hpk := hp.k
  have hpb := hp.b
  have hbl := fun i => hp.bl i
  dsimp only at hpp hpk hpb hbl
  show vfun tab _ k52 Try.f52 [.agg [.sl .str ps, .sl (.int .i64) ks, .sl (.slice MsgT) bs], .i .i64 i] [] _
  refine Ev.out ?_
  repeat' (first | ((with_reducible refine Ev.mk ?_); conv => whnf) | (with_reducible refine And.intro ?_ ?_) | (intro h))
  all_goals (try simp only [decide_eq_true_eq, decide_eq_false_iff_not, beq_iff_eq, bne_iff_ne, beq_eq_false_iff_ne, bne_eq_false_iff_eq, Int.toNat_natCast, ge_iff_le, gt_iff_lt, Bool.not_eq_true', Bool.not_eq_false', Int.not_lt, Int.not_le, ne_eq] at *)
  all_goals (try dsimp only [Ty.den, Ty.dflt, InT] at *)
  all_goals (try simp only [eq4, ne4, eq3, ne3, eq2, ne2, Prod.eta, List.length_cons, List.length_nil, List.length_append, Nat.zero_add] at *)
  all_goals (try simp (disch := omega) only [wrap64] at *)
  all_goals try first | exact leafDraw (by kernel_rfl) | exact Leaf.mk trivial | (refine Leaf.mk ?_; omega) | (refine Leaf.mk ?_; unfold maxLen; omega)
  all_goals
    have hlo : 0 < i ∧ i < (ks.length : Int) ∧ i ≤ (ps.length : Int) → loI (ps, ks, bs) i = ps.getD (i - 1).toNat [] := fun h => by rw [loI, if_pos h, show (i - 1).toNat = i.toNat - 1 by omega]
    have hlo2 : ¬ (0 < i ∧ i < (ks.length : Int) ∧ i ≤ (ps.length : Int)) → loI (ps, ks, bs) i = [] := fun h => by rw [loI, if_neg h]
    have hhi : 0 ≤ i ∧ i < (ks.length : Int) ∧ i < (ps.length : Int) → hiI (ps, ks, bs) i = ps.getD i.toNat [] := fun h => by rw [hiI, if_pos h]
    have hhi2 : ¬ (0 ≤ i ∧ i < (ks.length : Int) ∧ i < (ps.length : Int)) → hiI (ps, ks, bs) i = [] := fun h => by rw [hiI, if_neg h]
  all_goals first
    | exact Leaf.mk (retBo (a := []) (b := []) (c := loI (ps, ks, bs) i) (d := hiI (ps, ks, bs) i) (hlo2 (by omega)).symm (hhi2 (by omega)).symm)
    | exact Leaf.mk (retBo (a := ps.getD (i - 1).toNat []) (b := ps.getD i.toNat []) (c := loI (ps, ks, bs) i) (d := hiI (ps, ks, bs) i) (hlo (by omega)).symm (hhi (by omega)).symm)
    | exact Leaf.mk (retBo (a := ps.getD (i - 1).toNat []) (b := []) (c := loI (ps, ks, bs) i) (d := hiI (ps, ks, bs) i) (hlo (by omega)).symm (hhi2 (by omega)).symm)
    | exact Leaf.mk (retBo (a := []) (b := ps.getD i.toNat []) (c := loI (ps, ks, bs) i) (d := hiI (ps, ks, bs) i) (hlo2 (by omega)).symm (hhi (by omega)).symm)
    | skip
end Go.Proofs.Ytoedpnniaikfbaa

set_option linter.unusedVariables false
set_option linter.unusedSimpArgs false
set_option maxRecDepth 8000
set_option maxHeartbeats 4000000
namespace Go.Proofs.Ytoedpnniaikfbaa
open Go.Eng
theorem fOwnX : FnOk Try.prog 97 := ⟨_, Try.func97, by decide, rfl⟩
noncomputable def iOwnX : Eng.Spec := inl (exT tab) (spOf []) k97 Try.f97
theorem pOwnX : SpecOk Try.prog 97 iOwnX := inl_ok (exT_ok tabOk) spNil (by kernel_rfl) Try.func97 (by kernel_rfl)
def snds (l : List (Bool × List Msg)) : List (List Msg) := l.map fun r => r.2
theorem snds_true : ∀ (bs : List (List Msg)), snds (bs.map fun b => ((true, b) : Bool × List Msg)) = bs
  | [] => rfl
  | b :: bs => by rw [List.map_cons]; exact congrArg (b :: ·) (snds_true bs)
def sIAdd : PSpec := ⟨[.d InT, .d MsgT], [⟨true, [.d InT]⟩], fun x => IPre x.1, fun x => ((addI x.1 x.2.1, ()), ())⟩
theorem fIAdd : FnOk Try.prog 45 := ⟨_, Try.func45, by decide, rfl⟩
theorem pIAdd : PSound Try.prog 45 sIAdd := by
  refine psound (T := (exT tab)) (S := (spOf [(97, iOwnX), (101, sWhole.spec (lsOf [])), (21, sMCheck.spec (lsOf [])), (53, sRoute.spec (lsOf [])), (19, sWide.spec (lsOf []))])) (keep := k45) (by kernel_rfl) (exT_ok tabOk) (spCons (.inl ⟨pOwnX, fOwnX⟩) (spCons (pOk pWhole fWhole (by decide) lsNil) (spCons (pOk pMCheck fMCheck (by decide) lsNil) (spCons (pOk pRoute fRoute (by decide) lsNil) (spCons (pOk pWide fWide (by decide) lsNil) spNil))))) (by kernel_rfl) Try.func45 (by kernel_rfl) (by decide) fun xs hg hp => ?_
  obtain ⟨⟨ps, ks, bs⟩, ⟨kind, key, txn, ts, gone, val⟩, ⟨⟩⟩ := xs
  clear hg
  change List (List UInt8) at ps
  change List Int at ks
  change List (List Msg) at bs
  change Int at kind txn ts
  change List UInt8 at key val
  change Bool at gone
  change IPre (ps, ks, bs) at hp
  have hpp := hp.p
  have hpk := hp.k
  have hpb := hp.b
  have hbl := fun i => hp.bl i
  dsimp only at hpp hpk hpb hbl
  show vfun (exT tab) _ k45 Try.f45 [.agg [.sl .str ps, .sl (.int .i64) ks, .sl (.slice MsgT) bs], .agg [.i .u8 kind, .s key, .i .i64 txn, .i .i64 ts, .b gone, .s val]] [] _
  refine Ev.out ?_
  repeat' (first | ((with_reducible refine Ev.mk ?_); conv => whnf) | (with_reducible refine And.intro ?_ ?_) | (intro h))
  all_goals (try simp only [decide_eq_true_eq, decide_eq_false_iff_not, beq_iff_eq, bne_iff_ne, beq_eq_false_iff_ne, bne_eq_false_iff_eq, Int.toNat_natCast, ge_iff_le, gt_iff_lt, Bool.not_eq_true', Bool.not_eq_false', Int.not_lt, Int.not_le, ne_eq] at *)
  all_goals (try dsimp only [Ty.den, Ty.dflt, InT, sWhole, sMCheck, sRoute, sWide] at *)
  all_goals (try simp only [eq4, ne4, eq3, ne3, eq2, ne2, Prod.eta, List.length_cons, List.length_nil, List.length_append, Nat.zero_add] at *)
  all_goals (try simp (disch := omega) only [wrap64] at *)
  all_goals try first | exact leafDraw (by kernel_rfl) | exact Leaf.mk trivial | (refine Leaf.mk ?_; omega) | (refine Leaf.mk ?_; unfold maxLen; omega)
  rw [cp_all, cp_all]
  refine LoopVC.weak [(.cell 12 2, .nilx 25 MsgT)] (fun i : Nat => [(29, .i .i64 i)]) (fun i => [(15, .arx 25 MsgT ((bs.take i).map fun b => (true, b)))]) (fun i => i ≤ bs.length) (fun i => bs.length - i) 0 (Ev.mk ?_)
  (conv => whnf)
  refine ⟨Leaf.mk ?_, Leaf.mk ?_, ?_⟩
  · rfl
  · omega
  intro i hi
  repeat' (first | ((with_reducible refine Ev.mk ?_); conv => whnf) | (with_reducible refine And.intro ?_ ?_) | (intro h))
  all_goals (try simp only [decide_eq_true_eq, decide_eq_false_iff_not, beq_iff_eq, bne_iff_ne, beq_eq_false_iff_ne, bne_eq_false_iff_eq, Int.toNat_natCast, ge_iff_le, gt_iff_lt, Bool.not_eq_true', Bool.not_eq_false', Int.not_lt, Int.not_le, ne_eq] at *)
  all_goals (try dsimp only [Ty.den, Ty.dflt, InT, sWhole, sMCheck, sRoute, sWide] at *)
  all_goals (try simp only [eq4, ne4, eq3, ne3, eq2, ne2, Prod.eta, List.length_cons, List.length_nil, List.length_append, Nat.zero_add] at *)
  all_goals (try simp (disch := omega) only [wrap64] at *)
  all_goals try first | exact leafDraw (by kernel_rfl) | exact Leaf.mk trivial | (refine Leaf.mk ?_; omega) | (refine Leaf.mk ?_; unfold maxLen; omega)
  all_goals have htl : ((bs.take i).map fun b => (true, b)).length = i := by rw [List.length_map, List.length_take]; omega
  all_goals first
    | (refine Leaf.mk ?_; have := hbl i; omega)
    | (refine Leaf.mk ?_; omega)
    | (refine Leaf.mk ?_; unfold maxLen; omega)
    | (refine Leaf.mk ?_; rw [List.length_map, List.length_take]; omega)
    | (refine Leaf.mk ?_; rw [List.length_map, List.length_take]; unfold maxLen; omega)
    | (refine Leaf.mk (Exists.intro (i + 1) ⟨?_, by omega, by omega⟩)
       rw [cp_all, take_at [] (show i < bs.length by omega), List.map_append]; rfl)
    | skip
  all_goals
    obtain rfl : i = bs.length := by omega
    rw [List.take_length] at *
  · refine Leaf.mk (retIn (u := (ps, ks, snds (bs.map fun b => ((true, b) : Bool × List Msg)))) (v := addI (ps, ks, bs) (kind, key, txn, ts, gone, val)) ?_)
    rw [addI, if_neg (fun hc => by have h1 := hc.1; rw [show wholeI (ps, ks, bs) = false by assumption] at h1; cases h1)]
    rw [snds_true]
  · refine Leaf.mk (retIn (u := (ps, ks, snds (bs.map fun b => ((true, b) : Bool × List Msg)))) (v := addI (ps, ks, bs) (kind, key, txn, ts, gone, val)) ?_)
    rw [addI, if_neg (fun hc => by have h1 := hc.2; contradiction)]
    rw [snds_true]
  have hadd : addI (ps, ks, bs) (kind, key, txn, ts, gone, val) = (ps, ks, addB (aimI (ps, ks, bs) (kind, key, txn, ts, gone, val)) (kind, key, txn, ts, gone, val) bs) := by rw [addI, if_pos ⟨by assumption, by assumption⟩]
  have haim : ∀ j, aimI (ps, ks, bs) (kind, key, txn, ts, gone, val) j = (wide (kind, key, txn, ts, gone, val) || decide (j = routeI ps key)) := fun _ => rfl
  generalize aimI (ps, ks, bs) (kind, key, txn, ts, gone, val) = p at hadd haim
  rw [List.length_map]
  refine LoopVC.on (fun j : Nat => [(26, .i .i64 j)]) (fun j => [(5, .arx 25 MsgT (rowsX p (kind, key, txn, ts, gone, val) bs j))]) (fun j => j ≤ bs.length) (fun j => bs.length - j) 0 (by rw [rowsX_zero]; rfl) (by omega) ?_
  intro j hj
  have hlen := rowsX_len (p := p) (m := ((kind, key, txn, ts, gone, val) : Msg)) (bs := bs) (i := j)
  repeat' (first | ((with_reducible refine Ev.mk ?_); conv => whnf) | (with_reducible refine And.intro ?_ ?_) | (intro h))
  all_goals (try simp only [decide_eq_true_eq, decide_eq_false_iff_not, beq_iff_eq, bne_iff_ne, beq_eq_false_iff_ne, bne_eq_false_iff_eq, Int.toNat_natCast, ge_iff_le, gt_iff_lt, Bool.not_eq_true', Bool.not_eq_false', Int.not_lt, Int.not_le, ne_eq] at *)
  all_goals (try dsimp only [Ty.den, Ty.dflt, InT, sWhole, sMCheck, sRoute, sWide] at *)
  all_goals (try simp only [eq4, ne4, eq3, ne3, eq2, ne2, Prod.eta, List.length_cons, List.length_nil, List.length_append, Nat.zero_add] at *)
  all_goals (try simp (disch := omega) only [wrap64] at *)
  all_goals try first | exact leafDraw (by kernel_rfl) | exact Leaf.mk trivial | (refine Leaf.mk ?_; omega) | (refine Leaf.mk ?_; unfold maxLen; omega)
  all_goals try
    have hgd : (rowsX p ((kind, key, txn, ts, gone, val) : Msg) bs j).getD j (false, []) = (true, bs.getD j []) := by rw [List.getD_eq_getElem?_getD, rowsX_get (by omega)]; rfl
    have hbj := hbl j
    erw [hgd]
  all_goals first
    | exact Leaf.mk rfl
    | (refine Leaf.mk ?_; dsimp only; omega)
    | (refine Leaf.mk ?_; dsimp only; unfold maxLen; omega)
    | (refine Leaf.mk (Exists.intro (j + 1) ⟨?_, by omega, by omega⟩)
       have hpj : p j = true := by
         rw [haim, Bool.or_eq_true]
         first | exact .inl (by assumption) | exact .inr (decide_eq_true (by omega))
       rw [← rowsX_set hpj]; rfl)
    | (refine Leaf.mk (Exists.intro (j + 1) ⟨?_, by omega, by omega⟩)
       have hpj : p j = false := by
         rw [haim, Bool.or_eq_false_iff]
         exact ⟨by assumption, decide_eq_false (by omega)⟩
       rw [rowsX_no hpj]; rfl)
    | skip
  obtain rfl : j = bs.length := by omega
  refine Leaf.mk (retIn (u := (ps, ks, snds (rowsX p ((kind, key, txn, ts, gone, val) : Msg) bs bs.length))) (v := addI (ps, ks, bs) (kind, key, txn, ts, gone, val)) ?_)
  rw [hadd, snds, rowsX_end]
end Go.Proofs.Ytoedpnniaikfbaa

set_option linter.unusedVariables false
set_option linter.unusedSimpArgs false
set_option maxRecDepth 8000
set_option maxHeartbeats 4000000
namespace Go.Proofs.Ytoedpnniaikfbaa
open Go.Eng
theorem pOverlapsS : XOk Try.prog 142 xOverlaps := xOverlaps_ok tabOk Try.func142 (by kernel_rfl) (by kernel_rfl) (by kernel_rfl) (by kernel_rfl) (t := 42) rfl rfl (by rfl)
theorem pOverlapsI : XOk Try.prog 144 xOverlaps := xOverlaps_ok tabOk Try.func144 (by kernel_rfl) (by kernel_rfl) (by kernel_rfl) (by kernel_rfl) (t := 58) rfl rfl (by rfl)
theorem pOverlapsB : XOk Try.prog 146 xOverlaps := xOverlaps_ok tabOk Try.func146 (by kernel_rfl) (by kernel_rfl) (by kernel_rfl) (by kernel_rfl) (t := 59) rfl rfl (by rfl)
def sInsertS : OSpec := ⟨9, .str, [.d (.int .i64), .o 9 .str], fun xs y => 0 ≤ y.1 ∧ y.1 ≤ (xs.length : Int) ∧ xs.length + List.length y.2.1 ≤ 1000000, fun xs y => xs.take y.1.toNat ++ (y.2.1 ++ xs.drop y.1.toNat)⟩
theorem fInsertS : FnOk Try.prog 105 := ⟨_, Try.func105, by decide, rfl⟩
theorem pInsertS : SpecOk Try.prog 105 sInsertS.spec := by
  refine oOk (T := tab) (S := (spOf [(142, xOverlaps)])) (keep := k105) (by kernel_rfl) tabOk (spCons (.inr pOverlapsS) spNil) (by kernel_rfl) Try.func105 (by kernel_rfl) (by decide) (by decide) fun xs ys k hg hgt hmax hp => ?_
  obtain ⟨i, vs, ⟨⟩⟩ := ys
  change List (List UInt8) at xs
  change List (List UInt8) at vs
  change Int at i
  change 0 ≤ i ∧ i ≤ (xs.length : Int) ∧ xs.length + vs.length ≤ 1000000 at hp
  clear hg hgt
  obtain ⟨i, rfl⟩ := Int.eq_ofNat_of_zero_le hp.1
  show vfun tab _ k105 Try.f105 [.vw 0 .str 0 xs.length true, .i .i64 i, .own 1] [(0, .raw 9 .str (xs.map some ++ List.replicate k (none : Option (Ty.den .str)))), (1, .arr 9 .str vs)] _
  refine Ev.out ?_
  repeat' (first | ((with_reducible refine Ev.mk ?_); conv => whnf) | (with_reducible refine And.intro ?_ ?_) | (intro h))
  all_goals (try simp only [decide_eq_true_eq, decide_eq_false_iff_not, beq_iff_eq, bne_iff_ne, beq_eq_false_iff_ne, bne_eq_false_iff_eq, Int.toNat_natCast, ge_iff_le, gt_iff_lt, Bool.not_eq_true', Bool.not_eq_false', Int.not_lt, Int.not_le, ne_eq] at *)
  all_goals (try dsimp only [Ty.den, Ty.dflt, .str] at *)
  all_goals (try simp only [eq4, ne4, eq3, ne3, eq2, ne2, Prod.eta, List.length_cons, List.length_nil, List.length_append, Nat.zero_add] at *)
  all_goals (try simp (disch := omega) only [wrap64] at *)
  all_goals (try simp only [Int.sub_zero, Int.toNat_natCast, Int.toNat_sub, Int.toNat_zero, Nat.zero_add, toNat_add', toNat_addsub, toNat_subadd, List.length_map, List.length_append, List.length_replicate, List.length_take, List.length_drop] at *)
  all_goals first | omega | skip
  all_goals try first | exact leafDraw (by kernel_rfl) | exact Leaf.mk trivial | (refine Leaf.mk ?_; omega) | (refine Leaf.mk ?_; unfold maxLen; omega)
  all_goals first
    | (refine Leaf.mk ?_; unfold maxLen at *; omega)
    | skip
  · refine Leaf.mk (readO_vw.trans (congrArg some (?_ : _ = (xs.take i ++ (vs ++ xs.drop i)).map some)))
    obtain rfl : vs = [] := List.eq_nil_of_length_eq_zero (by omega)
    change ((xs.map some ++ List.replicate k none).take _) = _
    rw [raw_take (by omega)]
    simp
  · refine Leaf.mk (readO_vw.trans (congrArg some (?_ : _ = (xs.take i ++ (vs ++ xs.drop i)).map some)))
    obtain rfl : i = xs.length := by omega
    change (List.take (α := Option (List UInt8)) _ _) = _
    rw [raw_take (by omega), tk3 (by simp)]
    simp
  · refine Leaf.mk (readO_vw.trans (congrArg some (?_ : _ = (xs.take i ++ (vs ++ xs.drop i)).map some)))
    obtain rfl : i = xs.length := by omega
    change (List.take (α := Option (List UInt8)) _ _) = _
    rw [raw_take (by omega), tk3 (by simp)]
    simp
  · refine Leaf.mk (?_ : (List.take _ (List.drop _ (xs.map some ++ List.replicate k none))).all Option.isSome = true); rw [raw_cut (by omega)]; exact raw_all
  · exact Leaf.mk (readO_vw.trans (congrArg some (ins_new (by omega) (by omega) (by omega))))
  · refine Leaf.mk (?_ : (List.take _ (List.drop _ (xs.map some ++ List.replicate k none))).all Option.isSome = true); rw [raw_cut (by omega)]; exact raw_all
  · exact Leaf.mk (readO_vw.trans (congrArg some (ins_in (by omega) (by omega))))
def sInsertI : OSpec := ⟨3, (.int .i64), [.d (.int .i64), .o 3 (.int .i64)], fun xs y => 0 ≤ y.1 ∧ y.1 ≤ (xs.length : Int) ∧ xs.length + List.length y.2.1 ≤ 1000000, fun xs y => xs.take y.1.toNat ++ (y.2.1 ++ xs.drop y.1.toNat)⟩
theorem fInsertI : FnOk Try.prog 106 := ⟨_, Try.func106, by decide, rfl⟩
theorem pInsertI : SpecOk Try.prog 106 sInsertI.spec := by
  refine oOk (T := tab) (S := (spOf [(144, xOverlaps)])) (keep := k106) (by kernel_rfl) tabOk (spCons (.inr pOverlapsI) spNil) (by kernel_rfl) Try.func106 (by kernel_rfl) (by decide) (by decide) fun xs ys k hg hgt hmax hp => ?_
  obtain ⟨i, vs, ⟨⟩⟩ := ys
  change List Int at xs
  change List Int at vs
  change Int at i
  change 0 ≤ i ∧ i ≤ (xs.length : Int) ∧ xs.length + vs.length ≤ 1000000 at hp
  clear hg hgt
  obtain ⟨i, rfl⟩ := Int.eq_ofNat_of_zero_le hp.1
  show vfun tab _ k106 Try.f106 [.vw 0 (.int .i64) 0 xs.length true, .i .i64 i, .own 1] [(0, .raw 3 (.int .i64) (xs.map some ++ List.replicate k (none : Option (Ty.den (.int .i64))))), (1, .arr 3 (.int .i64) vs)] _
  refine Ev.out ?_
  repeat' (first | ((with_reducible refine Ev.mk ?_); conv => whnf) | (with_reducible refine And.intro ?_ ?_) | (intro h))
  all_goals (try simp only [decide_eq_true_eq, decide_eq_false_iff_not, beq_iff_eq, bne_iff_ne, beq_eq_false_iff_ne, bne_eq_false_iff_eq, Int.toNat_natCast, ge_iff_le, gt_iff_lt, Bool.not_eq_true', Bool.not_eq_false', Int.not_lt, Int.not_le, ne_eq] at *)
  all_goals (try dsimp only [Ty.den, Ty.dflt, (.int .i64)] at *)
  all_goals (try simp only [eq4, ne4, eq3, ne3, eq2, ne2, Prod.eta, List.length_cons, List.length_nil, List.length_append, Nat.zero_add] at *)
  all_goals (try simp (disch := omega) only [wrap64] at *)
  all_goals (try simp only [Int.sub_zero, Int.toNat_natCast, Int.toNat_sub, Int.toNat_zero, Nat.zero_add, toNat_add', toNat_addsub, toNat_subadd, List.length_map, List.length_append, List.length_replicate, List.length_take, List.length_drop] at *)
  all_goals first | omega | skip
  all_goals try first | exact leafDraw (by kernel_rfl) | exact Leaf.mk trivial | (refine Leaf.mk ?_; omega) | (refine Leaf.mk ?_; unfold maxLen; omega)
  all_goals first
    | (refine Leaf.mk ?_; unfold maxLen at *; omega)
    | skip
  · refine Leaf.mk (readO_vw.trans (congrArg some (?_ : _ = (xs.take i ++ (vs ++ xs.drop i)).map some)))
    obtain rfl : vs = [] := List.eq_nil_of_length_eq_zero (by omega)
    change ((xs.map some ++ List.replicate k none).take _) = _
    rw [raw_take (by omega)]
    simp
  · refine Leaf.mk (readO_vw.trans (congrArg some (?_ : _ = (xs.take i ++ (vs ++ xs.drop i)).map some)))
    obtain rfl : i = xs.length := by omega
    change (List.take (α := Option Int) _ _) = _
    rw [raw_take (by omega), tk3 (by simp)]
    simp
  · refine Leaf.mk (readO_vw.trans (congrArg some (?_ : _ = (xs.take i ++ (vs ++ xs.drop i)).map some)))
    obtain rfl : i = xs.length := by omega
    change (List.take (α := Option Int) _ _) = _
    rw [raw_take (by omega), tk3 (by simp)]
    simp
  · refine Leaf.mk (?_ : (List.take _ (List.drop _ (xs.map some ++ List.replicate k none))).all Option.isSome = true); rw [raw_cut (by omega)]; exact raw_all
  · exact Leaf.mk (readO_vw.trans (congrArg some (ins_new (by omega) (by omega) (by omega))))
  · refine Leaf.mk (?_ : (List.take _ (List.drop _ (xs.map some ++ List.replicate k none))).all Option.isSome = true); rw [raw_cut (by omega)]; exact raw_all
  · exact Leaf.mk (readO_vw.trans (congrArg some (ins_in (by omega) (by omega))))
def sInsertB : OSpec := ⟨25, (.slice MsgT), [.d (.int .i64), .o 25 (.slice MsgT)], fun xs y => 0 ≤ y.1 ∧ y.1 ≤ (xs.length : Int) ∧ xs.length + List.length y.2.1 ≤ 1000000, fun xs y => xs.take y.1.toNat ++ (y.2.1 ++ xs.drop y.1.toNat)⟩
theorem fInsertB : FnOk Try.prog 107 := ⟨_, Try.func107, by decide, rfl⟩
theorem pInsertB : SpecOk Try.prog 107 sInsertB.spec := by
  refine oOk (T := tab) (S := (spOf [(146, xOverlaps)])) (keep := k107) (by kernel_rfl) tabOk (spCons (.inr pOverlapsB) spNil) (by kernel_rfl) Try.func107 (by kernel_rfl) (by decide) (by decide) fun xs ys k hg hgt hmax hp => ?_
  obtain ⟨i, vs, ⟨⟩⟩ := ys
  change List (List Msg) at xs
  change List (List Msg) at vs
  change Int at i
  change 0 ≤ i ∧ i ≤ (xs.length : Int) ∧ xs.length + vs.length ≤ 1000000 at hp
  clear hg hgt
  obtain ⟨i, rfl⟩ := Int.eq_ofNat_of_zero_le hp.1
  show vfun tab _ k107 Try.f107 [.vw 0 (.slice MsgT) 0 xs.length true, .i .i64 i, .own 1] [(0, .raw 25 (.slice MsgT) (xs.map some ++ List.replicate k (none : Option (Ty.den (.slice MsgT))))), (1, .arr 25 (.slice MsgT) vs)] _
  refine Ev.out ?_
  repeat' (first | ((with_reducible refine Ev.mk ?_); conv => whnf) | (with_reducible refine And.intro ?_ ?_) | (intro h))
  all_goals (try simp only [decide_eq_true_eq, decide_eq_false_iff_not, beq_iff_eq, bne_iff_ne, beq_eq_false_iff_ne, bne_eq_false_iff_eq, Int.toNat_natCast, ge_iff_le, gt_iff_lt, Bool.not_eq_true', Bool.not_eq_false', Int.not_lt, Int.not_le, ne_eq] at *)
  all_goals (try dsimp only [Ty.den, Ty.dflt, (.slice MsgT)] at *)
  all_goals (try simp only [eq4, ne4, eq3, ne3, eq2, ne2, Prod.eta, List.length_cons, List.length_nil, List.length_append, Nat.zero_add] at *)
  all_goals (try simp (disch := omega) only [wrap64] at *)
  all_goals (try simp only [Int.sub_zero, Int.toNat_natCast, Int.toNat_sub, Int.toNat_zero, Nat.zero_add, toNat_add', toNat_addsub, toNat_subadd, List.length_map, List.length_append, List.length_replicate, List.length_take, List.length_drop] at *)
  all_goals first | omega | skip
  all_goals try first | exact leafDraw (by kernel_rfl) | exact Leaf.mk trivial | (refine Leaf.mk ?_; omega) | (refine Leaf.mk ?_; unfold maxLen; omega)
  all_goals first
    | (refine Leaf.mk ?_; unfold maxLen at *; omega)
    | skip
  · refine Leaf.mk (readO_vw.trans (congrArg some (?_ : _ = (xs.take i ++ (vs ++ xs.drop i)).map some)))
    obtain rfl : vs = [] := List.eq_nil_of_length_eq_zero (by omega)
    change ((xs.map some ++ List.replicate k none).take _) = _
    rw [raw_take (by omega)]
    simp
  · refine Leaf.mk (readO_vw.trans (congrArg some (?_ : _ = (xs.take i ++ (vs ++ xs.drop i)).map some)))
    obtain rfl : i = xs.length := by omega
    change (List.take (α := Option (List Msg)) _ _) = _
    rw [raw_take (by omega), tk3 (by simp)]
    simp
  · refine Leaf.mk (readO_vw.trans (congrArg some (?_ : _ = (xs.take i ++ (vs ++ xs.drop i)).map some)))
    obtain rfl : i = xs.length := by omega
    change (List.take (α := Option (List Msg)) _ _) = _
    rw [raw_take (by omega), tk3 (by simp)]
    simp
  · refine Leaf.mk (?_ : (List.take _ (List.drop _ (xs.map some ++ List.replicate k none))).all Option.isSome = true); rw [raw_cut (by omega)]; exact raw_all
  · exact Leaf.mk (readO_vw.trans (congrArg some (ins_new (by omega) (by omega) (by omega))))
  · refine Leaf.mk (?_ : (List.take _ (List.drop _ (xs.map some ++ List.replicate k none))).all Option.isSome = true); rw [raw_cut (by omega)]; exact raw_all
  · exact Leaf.mk (readO_vw.trans (congrArg some (ins_in (by omega) (by omega))))
def sIGrow : PSpec := ⟨[.d InT, .d (.int .i64), .d (.int .i64), .d .str], [⟨true, [.d InT]⟩], fun x => IPre x.1, fun x => ((growI x.1 x.2.1 x.2.2.1 x.2.2.2.1, ()), ())⟩
theorem fIGrow : FnOk Try.prog 49 := ⟨_, Try.func49, by decide, rfl⟩
theorem pIGrow : PSound Try.prog 49 sIGrow := by
  refine psound (T := tab) (S := (spOf [(97, sIOwn.spec (lsOf [])), (98, sHas.spec (lsOf [])), (105, sInsertS.spec), (106, sInsertI.spec), (107, sInsertB.spec)])) (keep := k49) (by kernel_rfl) tabOk (spCons (pOk pIOwn fIOwn (by decide) lsNil) (spCons (pOk pHas fHas (by decide) lsNil) (spCons (.inl ⟨pInsertS, fInsertS⟩) (spCons (.inl ⟨pInsertI, fInsertI⟩) (spCons (.inl ⟨pInsertB, fInsertB⟩) spNil))))) (by kernel_rfl) Try.func49 (by kernel_rfl) (by decide) fun xs hg hp => ?_
  obtain ⟨n, i, right, sep, ⟨⟩⟩ := xs
  obtain ⟨ps, ks, bs⟩ := n
  clear hg
  change List (List UInt8) at ps
  change List Int at ks
  change List (List Msg) at bs
  change Int at i right
  change List UInt8 at sep
  change IPre (ps, ks, bs) at hp
  have hpp := hp.p
  have hpk := hp.k
  have hpb := hp.b
  dsimp only at hpp hpk hpb
  show vfun tab _ k49 Try.f49 [.agg [.sl .str ps, .sl (.int .i64) ks, .sl (.slice MsgT) bs], .i .i64 i, .i .i64 right, .s sep] [] _
  refine Ev.out ?_
  repeat' (first | ((with_reducible refine Ev.mk ?_); conv => whnf) | (with_reducible refine And.intro ?_ ?_) | (intro h))
  all_goals (try simp only [decide_eq_true_eq, decide_eq_false_iff_not, beq_iff_eq, bne_iff_ne, beq_eq_false_iff_ne, bne_eq_false_iff_eq, Int.toNat_natCast, ge_iff_le, gt_iff_lt, Bool.not_eq_true', Bool.not_eq_false', Int.not_lt, Int.not_le, ne_eq] at *)
  all_goals (try dsimp only [Ty.den, Ty.dflt, InT, sIOwn, sHas] at *)
  all_goals (try simp only [eq4, ne4, eq3, ne3, eq2, ne2, Prod.eta, List.length_cons, List.length_nil, List.length_append, Nat.zero_add] at *)
  all_goals (try simp (disch := omega) only [wrap64] at *)
  all_goals try first | exact leafDraw (by kernel_rfl) | exact Leaf.mk trivial | (refine Leaf.mk ?_; omega) | (refine Leaf.mk ?_; unfold maxLen; omega)
  · refine Leaf.mk (retIn (u := (ps, ks, bs)) (v := growI (ps, ks, bs) i right sep) ?_)
    rw [growI, if_neg (not_of_false (show hasI (ps, ks, bs) i = false by assumption))]
  all_goals
    obtain ⟨hw, hi0, hi1⟩ := hasI_iff.1 (show hasI (ps, ks, bs) i = true from ‹_›)
    obtain ⟨w1, w2⟩ := wholeI_iff.1 hw
    dsimp only at hi1 w1 w2
    have ew : IntKind.i64.wrap (i + 1) = i + 1 := wrap64 (by omega)
  · exact Leaf.mk (show 0 ≤ i ∧ i ≤ (ps.length : Int) ∧ ps.length + 1 ≤ 1000000 by omega)
  · rw [ew]; exact Leaf.mk (show 0 ≤ i + 1 ∧ i + 1 ≤ (ks.length : Int) ∧ ks.length + 1 ≤ 1000000 by omega)
  · rw [ew]; exact Leaf.mk (show 0 ≤ i + 1 ∧ i + 1 ≤ (bs.length : Int) ∧ bs.length + 1 ≤ 1000000 by omega)
  · rw [ew]
    refine Leaf.mk (retIn (u := (insK i.toNat sep ps, insK (i + 1).toNat right ks, insK (i + 1).toNat [] bs)) (v := growI (ps, ks, bs) i right sep) ?_)
    rw [growI, if_pos (show hasI (ps, ks, bs) i = true by assumption), show (i + 1).toNat = i.toNat + 1 by omega]
end Go.Proofs.Ytoedpnniaikfbaa

set_option linter.unusedVariables false
set_option linter.unusedSimpArgs false
set_option maxRecDepth 8000
set_option maxHeartbeats 4000000
namespace Go.Proofs.Ytoedpnniaikfbaa
open Go.Eng
def sHasPrefix : PSpec := ⟨[.d BT, .d BT], [⟨false, [.d .bool]⟩], fun _ => True, fun x => ((hasPre x.1 x.2.1, ()), ())⟩
theorem fHasPrefix : FnOk Try.prog 87 := ⟨_, Try.func87, by decide, rfl⟩
theorem pHasPrefix : PSound Try.prog 87 sHasPrefix := by
  refine psound (T := tab) (S := (spOf [(132, sBEqual.spec (lsOf []))])) (keep := k87) (by kernel_rfl) tabOk (spCons (pOk pBEqual fBEqual (by decide) lsNil) spNil) (by kernel_rfl) Try.func87 (by kernel_rfl) (by decide) fun xs hg hp => ?_
  obtain ⟨b, c, ⟨⟩⟩ := xs
  change List Int at b c
  show vfun tab _ k87 Try.f87 [.sl (.int .u8) b, .sl (.int .u8) c] [] _
  refine Ev.out ?_
  repeat' (first | ((with_reducible refine Ev.mk ?_); conv => whnf) | (with_reducible refine And.intro ?_ ?_) | (intro h))
  all_goals (try simp only [decide_eq_true_eq, decide_eq_false_iff_not, beq_iff_eq, bne_iff_ne, beq_eq_false_iff_ne, bne_eq_false_iff_eq, Int.toNat_natCast, ge_iff_le, gt_iff_lt, Bool.not_eq_true', Bool.not_eq_false', Int.not_lt, Int.not_le, ne_eq] at *)
  all_goals (try dsimp only [Ty.den, Ty.dflt, MsgT, sBEqual] at *)
  all_goals (try simp only [eq4, ne4, eq3, ne3, eq2, ne2, Prod.eta, List.length_cons, List.length_nil, List.length_append, Nat.zero_add] at *)
  all_goals (try simp (disch := omega) only [wrap64] at *)
  all_goals try first | exact leafDraw (by kernel_rfl) | exact Leaf.mk trivial | (refine Leaf.mk ?_; omega) | (refine Leaf.mk ?_; unfold maxLen; omega)
  · refine Leaf.mk (ret1 (show _ = hasPre b c from ?_))
    rw [hasPre, decide_eq_true (by omega), Bool.true_and, Int.toNat_zero, List.drop_zero]
  · refine Leaf.mk (ret1 (show _ = hasPre b c from ?_))
    rw [hasPre, decide_eq_false (by omega), Bool.false_and]
def sMGet : PSpec := ⟨[.d BT], [⟨true, [.d MsgT]⟩, ⟨false, [.d (.int .i64)]⟩, ⟨false, [.d (.int .i64)]⟩], fun x => List.length (α := Int) x.1 ≤ 100000, fun x => (((getM x.1).1, ()), ((getM x.1).2.1, ()), ((getM x.1).2.2, ()), ())⟩
theorem retM {u v : Msg × Int × Int} (h : u = v) : (some ((u.1, ()), (u.2.1, ()), (u.2.2, ()), ()) : Option ((Msg × Unit) × (Int × Unit) × (Int × Unit) × Unit)) = some ((v.1, ()), (v.2.1, ()), (v.2.2, ()), ()) := by rw [h]
theorem suf_cutk (k : Int) {X r : List Int} (h : X <:+ r) : (k :: r).drop (((r.length + 1 : Nat) : Int) - ((X.length : Nat) : Int)).toNat = X := by
  obtain ⟨t, rfl⟩ := h
  rw [show (((t ++ X).length + 1 : Nat) : Int) - ((X.length : Nat) : Int) = ((t.length + 1 : Nat) : Int) by rw [List.length_append]; omega, Int.toNat_natCast, List.drop_succ_cons, List.drop_left]
theorem cut_all {α : Type} (l : List α) : l.take l.length = l := List.take_length
end Go.Proofs.Ytoedpnniaikfbaa
