import Derived.Test.YtoedpnniaikfbaaQ9
import Derived.Test.YtoedpnniaikfbaaQ8
/- Texts, one behind the other. -/
set_option linter.unusedVariables false
set_option linter.unusedSimpArgs false
set_option maxRecDepth 8000
set_option maxHeartbeats 4000000
namespace Go.Proofs.Ytoedpnniaikfbaa
open Go.Eng
theorem fMGet : FnOk Try.prog 33 := ⟨_, Try.func33, by decide, rfl⟩
theorem pMGet : PSound Try.prog 33 sMGet := by
  refine psound (T := tab) (S := (spOf [(68, sOf.spec (lsOf [])), (83, sNew.spec (lsOf [])), (84, sText.spec), (85, sSmall.spec), (86, sLeft.spec), (31, sMPut.spec (lsOf [])), (87, sHasPrefix.spec (lsOf []))])) (keep := k33) (by kernel_rfl) tabOk (spCons (pOk pOf fOf (by decide) lsNil) (spCons (.inl ⟨nOk lsNil pNew, fNew⟩) (spCons (.inl ⟨pText, fText⟩) (spCons (.inl ⟨pSmall, fSmall⟩) (spCons (.inl ⟨pLeft, fLeft⟩) (spCons (pOk pMPut fMPut (by decide) lsNil) (spCons (pOk pHasPrefix fHasPrefix (by decide) lsNil) spNil))))))) (by kernel_rfl) Try.func33 (by kernel_rfl) (by decide) fun xs hg hp => ?_
  obtain ⟨b, ⟨⟩⟩ := xs
  obtain ⟨⟨-, hx⟩, -⟩ := hg
  change List Int at b
  change b.length ≤ 100000 at hp
  have hB : isB b := isB_good hx
  clear hx
  cases b with
  | nil =>
  show vfun tab _ k33 Try.f33 [.sl (.int .u8) []] [] _
  refine Ev.out ?_
  repeat' (first | ((with_reducible refine Ev.mk ?_); conv => whnf) | (with_reducible refine And.intro ?_ ?_) | (intro h))
  all_goals try first | exact leafDraw (by kernel_rfl) | exact Leaf.mk trivial | (refine Leaf.mk ?_; omega) | (refine Leaf.mk ?_; unfold maxLen; omega)
  all_goals first
    | exact Leaf.mk (retM (u := (msg0, 0, 4)) (v := getM []) rfl)
    | exact absurd ‹((([] : List Int).length : Int) == 0) = false› (by decide)
  | cons k r =>
  show vfun tab _ k33 Try.f33 [.sl (.int .u8) (k :: r)] [] _
  refine Ev.out ?_
  repeat' (first | ((with_reducible refine Ev.mk ?_); conv => whnf) | (with_reducible refine And.intro ?_ ?_) | (intro h; (try dsimp only [sOf, ofK] at h); (try simp only [beq_iff_eq, bne_iff_ne, beq_eq_false_iff_ne, bne_eq_false_iff_eq, decide_eq_true_eq, decide_eq_false_iff_not, ne_eq, Int.not_lt, Int.not_le, Bool.not_eq_true', Bool.not_eq_false'] at h); try (exfalso; omega)))
  all_goals try exact leafDraw (by kernel_rfl)
  all_goals try simp only [List.getD_cons_zero, Int.toNat_zero, show Int.toNat 1 = 1 from rfl, Int.toNat_natCast, cut_all, List.drop_succ_cons, List.drop_zero] at *
  all_goals try exact Leaf.mk trivial
  all_goals (try simp only [decide_eq_true_eq, decide_eq_false_iff_not, beq_iff_eq, bne_iff_ne, beq_eq_false_iff_ne, bne_eq_false_iff_eq, Int.toNat_natCast, ge_iff_le, gt_iff_lt, Bool.not_eq_true', Bool.not_eq_false', Int.not_lt, Int.not_le, ne_eq] at *)
  all_goals (try dsimp only [Ty.den, Ty.dflt, MsgT, sNew, sText, sSmall, sLeft, sMPut, sHasPrefix] at *)
  all_goals (try simp only [eq4, ne4, eq3, ne3, eq2, ne2, Prod.eta, List.length_cons, List.length_nil, List.length_append, Nat.zero_add] at *)
  all_goals (try simp (disch := omega) only [wrap64] at *)
  all_goals try first | exact leafDraw (by kernel_rfl) | exact Leaf.mk trivial | (refine Leaf.mk ?_; omega) | (refine Leaf.mk ?_; unfold maxLen; omega)
  all_goals
    have hk0 : 0 ≤ k := (hB k List.mem_cons_self).1
    have hrl : r.length + 1 ≤ 100000 := hp
    have hs1 := suf_len (rdText_suf r 0 16)
    have hs2 := suf_len (rdSmall_suf (rdText r 0 16).2.1 (rdText r 0 16).2.2)
  all_goals
    have hs3 := suf_len (rdSmall_suf r 0)
    have hs4 := suf_len (rdSmall_suf (rdSmall r 0).2.1 (rdSmall r 0).2.2)
    have hcut := suf_cutk k ((rdSmall_suf (rdText r 0 16).2.1 (rdText r 0 16).2.2).trans (rdText_suf r 0 16))
  all_goals try rw [wrap64 (by omega)] at *
  all_goals try simp only [hcut] at *
  all_goals try (refine Leaf.mk ?_; first | omega | (rw [List.length_drop]; omega))
  all_goals first
    | refine Leaf.mk (retM (u := (msg0, 0, 4)) (v := getM (k :: r)) ((fin_of hB ?_ ?_).bad ‹¬ (putR12 _).2 = 0›))
    | refine Leaf.mk (retM (u := (msg0, 0, 4)) (v := getM (k :: r)) ((fin_of hB ?_ ?_).nol ‹(putR12 _).2 = 0› ‹_ < _›))
    | refine Leaf.mk (retM (u := (msg0, 0, 4)) (v := getM (k :: r)) ((fin_of hB ?_ ?_).nos ‹(putR12 _).2 = 0› ‹¬ strOfBytes _ = _›))
    | refine Leaf.mk (retM (u := (msg0, 0, 4)) (v := getM (k :: r)) ((fin_of hB ?_ ?_).nop ‹(putR12 _).2 = 0› ‹hasPre _ _ = false›))
    | refine Leaf.mk (retM (u := (_, _, 0)) (v := getM (k :: r)) ((fin_of hB ?_ ?_).yess ‹(putR12 _).2 = 0› ‹strOfBytes _ = _›))
    | refine Leaf.mk (retM (u := (_, _, 0)) (v := getM (k :: r)) ((fin_of hB ?_ ?_).yesp ‹(putR12 _).2 = 0› ‹hasPre _ _ = true›))
  all_goals try exact rfl
  all_goals
    intro x s hx ok q
    have hts := q.ts
    have hk3 := ok.kind
    rw [hx] at hts hk3
  all_goals first
    | (exfalso; omega)
    | (have hkk : k = 0 := by omega
       subst hkk)
    | (have hkk : k = 1 := by omega
       subst hkk)
    | (have hkk : k = 2 := by omega
       subst hkk)
    | (have hkk : k = 3 := by omega
       subst hkk)
  all_goals
    simp only [rdTs, rdTxn, rdKey, readM, if_true, if_false, Int.reduceEq, true_or, or_true, false_or, or_false, true_and, false_and] at hts ⊢
  all_goals try exact rfl
  all_goals try (rw [if_pos (by omega)]; done)
  all_goals try (rw [if_neg (by omega)]; done)
  all_goals try (rw [if_pos (by omega)]; simp_all; done)
  all_goals try (exfalso; exact absurd (congrArg (fun p : Int × List Int × Int => p.2.2) hts) ‹¬ (rdSmall _ _).2.2 = 0›)
end Go.Proofs.Ytoedpnniaikfbaa

set_option linter.unusedVariables false
set_option linter.unusedSimpArgs false
set_option maxRecDepth 8000
set_option maxHeartbeats 4000000
namespace Go.Proofs.Ytoedpnniaikfbaa
open Go.Eng
def sIGet : PSpec := ⟨[.d BT], [⟨true, [.d InT]⟩, ⟨false, [.d (.int .i64)]⟩], fun x => List.length (α := Int) x.1 ≤ 5000, fun x => (((getI x.1).1, ()), ((getI x.1).2, ()), ())⟩
theorem retGi {u v : Inn × Int} (h : u = v) : (some ((u.1, ()), (u.2, ()), ()) : Option ((Inn × Unit) × (Int × Unit) × Unit)) = some ((v.1, ()), (v.2, ()), ()) := by rw [h]
theorem ValI.hd {n : Inn} {b : List Int} (h : ValI n) (hb : layI n = b) : rdSmall b 0 = (((n.2.1.length : Nat) : Int), n.1.flatMap putText ++ kfrom n.2.1 n.2.2, 0) := by
  subst hb
  have := h.k6
  rw [layI_eq h.w1, rdSmall_put (Int.natCast_nonneg _) (by omega)]
theorem kfrom_at {ks : List Int} {bs : List (List Msg)} {i : Nat} (h : bs.length = ks.length) (hi : i < ks.length) : kfrom (ks.drop i) (bs.drop i) = kb (ks.getD i 0) (bs.getD i []) ++ kfrom (ks.drop (i + 1)) (bs.drop (i + 1)) := by
  rw [drop_at 0 hi, drop_at [] (show i < bs.length by omega), kfrom]
theorem ValI.kid {n : Inn} {i : Nat} (h : ValI n) (hi : i < n.2.1.length) : rdSmall (kfrom (n.2.1.drop i) (n.2.2.drop i)) 0 = (n.2.1.getD i 0, putSmall ((n.2.2.getD i []).length : Nat) ++ ((n.2.2.getD i []).flatMap pm ++ kfrom (n.2.1.drop (i + 1)) (n.2.2.drop (i + 1))), 0) ∧
    rdSmall (putSmall ((n.2.2.getD i []).length : Nat) ++ ((n.2.2.getD i []).flatMap pm ++ kfrom (n.2.1.drop (i + 1)) (n.2.2.drop (i + 1)))) 0 = ((((n.2.2.getD i []).length : Nat) : Int), (n.2.2.getD i []).flatMap pm ++ kfrom (n.2.1.drop (i + 1)) (n.2.2.drop (i + 1)), 0) := by
  have h1 := h.ks _ (getD_mem (xs := n.2.1) 0 hi)
  have h2 := h.bl (getD_mem (xs := n.2.2) [] (show i < n.2.2.length by have := h.w1; omega))
  rw [kfrom_at h.w1 hi, kb, max0_ok h1.1, List.append_assoc, List.append_assoc]
  exact ⟨rdSmall_put h1.1 h1.2 _, rdSmall_put (Int.natCast_nonneg _) (by omega) _⟩
theorem ValI.msg {n : Inn} {i j : Nat} (h : ValI n) (h0 : nnI n) (hi : i < n.2.2.length) (hj : j < (n.2.2.getD i []).length) (r : List Int) : getM (((n.2.2.getD i []).drop j).flatMap pm ++ r) = ((n.2.2.getD i []).getD j msg0, (((putM ((n.2.2.getD i []).getD j msg0)).length : Nat) : Int), 0) ∧
    (((n.2.2.getD i []).drop j).flatMap pm ++ r).drop (putM ((n.2.2.getD i []).getD j msg0)).length = ((n.2.2.getD i []).drop (j + 1)).flatMap pm ++ r := by
  have hb := getD_mem (xs := n.2.2) [] hi
  have hm := getD_mem (xs := n.2.2.getD i []) msg0 hj
  have h1 := h.ms _ hb _ hm
  rw [drop_at msg0 hj, List.flatMap_cons, List.append_assoc, pm_ok h1]
  exact ⟨getM_put (h0 _ hb _ hm) h1 (List.prefix_append _ _), List.drop_left' rfl⟩
theorem ValI.piv {n : Inn} {i : Nat} (h : ValI n) (hi : i < n.1.length) (r : List Int) : rdText ((n.1.drop i).flatMap putText ++ r) 0 16 = (n.1.getD i [], (n.1.drop (i + 1)).flatMap putText ++ r, 0) := by
  have h9 := h.ps _ (getD_mem (xs := n.1) [] hi)
  rw [drop_at [] hi, List.flatMap_cons, List.append_assoc, rdText_put (by omega)]
def min6 (x : Int) : Int := if 6 < x then 6 else x
theorem min6_of (x : Int) {inst : Decidable (6 < x)} : @ite Int (6 < x) inst 6 x = min6 x := by unfold min6; split <;> first | rfl | (split <;> first | rfl | omega)
theorem fIGet : FnOk Try.prog 94 := ⟨_, Try.func94, by decide, rfl⟩
theorem pIGet : PSound Try.prog 94 sIGet := by
  refine psound (T := tab) (S := (spOf [(83, sNew.spec (lsOf [])), (85, sSmall.spec), (84, sText.spec), (86, sLeft.spec), (33, sMGet.spec (lsOf [])), (93, sIPut.spec (lsOf [])), (132, sBEqual.spec (lsOf []))])) (keep := k94) (by kernel_rfl) tabOk (spCons (.inl ⟨nOk lsNil pNew, fNew⟩) (spCons (.inl ⟨pSmall, fSmall⟩) (spCons (.inl ⟨pText, fText⟩) (spCons (.inl ⟨pLeft, fLeft⟩) (spCons (pOk pMGet fMGet (by decide) lsNil) (spCons (pOk pIPut fIPut (by decide) lsNil) (spCons (pOk pBEqual fBEqual (by decide) lsNil) spNil))))))) (by kernel_rfl) Try.func94 (by kernel_rfl) (by decide) fun xs hg hp => ?_
  obtain ⟨b, ⟨⟩⟩ := xs
  obtain ⟨⟨-, hx⟩, -⟩ := hg
  change List Int at b
  change b.length ≤ 5000 at hp
  have hB : isB b := isB_good hx
  change ∀ x ∈ b, Eng.Good (.int .u8) x at hx
  have hb1 := rdSmall_suf b 0
  have hl1 := suf_len hb1
  show vfun tab _ k94 Try.f94 [.sl (.int .u8) b] [] _
  refine Ev.out ?_
  repeat' (first | ((with_reducible refine Ev.mk ?_); conv => whnf) | (with_reducible refine And.intro ?_ ?_) | (intro h))
  all_goals (try simp only [decide_eq_true_eq, decide_eq_false_iff_not, beq_iff_eq, bne_iff_ne, beq_eq_false_iff_ne, bne_eq_false_iff_eq, Int.toNat_natCast, ge_iff_le, gt_iff_lt, Bool.not_eq_true', Bool.not_eq_false', Int.not_lt, Int.not_le, ne_eq] at *)
  all_goals (try dsimp only [Ty.den, Ty.dflt, InT, sNew, sSmall] at *)
  all_goals (try simp only [eq4, ne4, eq3, ne3, eq2, ne2, Prod.eta, List.length_cons, List.length_nil, List.length_append, Nat.zero_add] at *)
  all_goals (try simp (disch := omega) only [wrap64] at *)
  all_goals try first | exact leafDraw (by kernel_rfl) | exact Leaf.mk trivial | (refine Leaf.mk ?_; omega) | (refine Leaf.mk ?_; unfold maxLen; omega)
  erw [min6_of]
  generalize hN : (rdSmall b 0).1 = N
  generalize hb0 : (rdSmall b 0).2.1 = b0 at *
  generalize he0 : (rdSmall b 0).2.2 = e0
  have h0 : ∀ n, checkI n = 0 → nnI n → layI n = b → min6 N = n.2.1.length ∧ b0 = n.1.flatMap putText ++ kfrom n.2.1 n.2.2 ∧ e0 = 0 := fun n hc hn hb => by
    have v := valI hc
    have h1 := v.hd hb
    have h2 := v.k6
    rw [h1] at hN hb0 he0
    refine ⟨?_, hb0.symm, he0.symm⟩
    rw [← hN, min6, if_neg (by dsimp only; omega)]
  have hM : min6 N ≤ 6 := by unfold min6; split <;> omega
  generalize min6 N = M at *
  refine LoopVC.weak [(.cell 2 0, .nil 9 .str)] (fun a : Nat × List Int × Int × List S8 => [(7, .i .i64 a.1)]) (fun a => [(1, .box [.sl (.int .u8) a.2.1, .i .i64 a.2.2.1]), (3, .arr 9 .str a.2.2.2)]) (fun a => 1 ≤ a.1 ∧ a.1 ≤ 7 ∧ a.2.1 <:+ b ∧ a.2.2.2.length + 1 = a.1 ∧ (∀ p ∈ a.2.2.2, p.length ≤ 16) ∧ ∀ n, checkI n = 0 → nnI n → layI n = b → M = n.2.1.length ∧ a.1 ≤ n.2.1.length ∧ a.2.1 = (n.1.drop (a.1 - 1)).flatMap putText ++ kfrom n.2.1 n.2.2 ∧ a.2.2.1 = 0 ∧ a.2.2.2 = n.1.take (a.1 - 1)) (fun a => 7 - a.1) (1, b0, e0, []) (Ev.mk ?_)
  (conv => whnf)
  refine ⟨Leaf.mk ?_, Leaf.mk ?_, ?_⟩
  · rfl
  · refine ⟨by dsimp only; omega, by dsimp only; omega, hb1, rfl, fun p hp => by simp at hp, fun n hc hn hb => ?_⟩
    have v := valI hc
    have h2 := v.k2
    obtain ⟨h1, h3, h4⟩ := h0 n hc hn hb
    exact ⟨h1, by dsimp only; omega, h3, h4, rfl⟩
  intro ⟨i, rb, re, acc⟩ ⟨hi1, hi7, hrb, hacc, hat, hv⟩
  dsimp only at hi1 hi7 hrb hacc hat hv ⊢
  have hrl := suf_len hrb
  repeat' (first | ((with_reducible refine Ev.mk ?_); conv => whnf) | (with_reducible refine And.intro ?_ ?_) | (intro h))
  all_goals (try simp only [decide_eq_true_eq, decide_eq_false_iff_not, beq_iff_eq, bne_iff_ne, beq_eq_false_iff_ne, bne_eq_false_iff_eq, Int.toNat_natCast, ge_iff_le, gt_iff_lt, Bool.not_eq_true', Bool.not_eq_false', Int.not_lt, Int.not_le, ne_eq] at *)
  all_goals (try dsimp only [Ty.den, Ty.dflt, InT, sNew, sSmall, sText] at *)
  all_goals (try simp only [eq4, ne4, eq3, ne3, eq2, ne2, Prod.eta, List.length_cons, List.length_nil, List.length_append, Nat.zero_add] at *)
  all_goals (try simp (disch := omega) only [wrap64] at *)
  all_goals try first | exact leafDraw (by kernel_rfl) | exact Leaf.mk trivial | (refine Leaf.mk ?_; omega) | (refine Leaf.mk ?_; unfold maxLen; omega)
  · have hts := rdText_suf rb re 16
    have htm := rdText_max9 rb re (m := 16) (by decide)
    refine Leaf.mk (Exists.intro (i + 1, (rdText rb re 16).2.1, (rdText rb re 16).2.2, acc ++ [(rdText rb re 16).1]) ⟨rfl, ⟨by dsimp only; omega, by dsimp only; omega, hts.trans hrb, by dsimp only; rw [List.length_append, List.length_singleton]; omega, fun p hp => ?_, fun n hc hn hb => ?_⟩, by dsimp only; omega⟩)
    · rcases List.mem_append.1 hp with hp | hp
      · exact hat p hp
      · rw [List.mem_singleton] at hp; subst hp; omega
    · obtain ⟨h1, h2, h3, h4, h5⟩ := hv n hc hn hb
      have v := valI hc
      have hw2 := v.w2
      have h6 := v.piv (i := i - 1) (by omega) (kfrom n.2.1 n.2.2)
      dsimp only
      rw [h3, h4, h6, h5, show i + 1 - 1 = i - 1 + 1 by omega]
      exact ⟨h1, by omega, rfl, rfl, (take_at [] (show i - 1 < n.1.length by omega)).symm⟩
  clear hrl
  have hv1 : ∀ n, checkI n = 0 → nnI n → layI n = b → M = n.2.1.length ∧ rb = kfrom n.2.1 n.2.2 ∧ re = 0 ∧ acc = n.1 := fun n hc hn hb => by
    obtain ⟨h1, h2, h3, h4, h5⟩ := hv n hc hn hb
    have hw2 := (valI hc).w2
    rw [drop_end (by omega)] at h3
    exact ⟨h1, h3, h4, by rw [h5, List.take_of_length_le (by omega)]⟩
  clear hv
  refine LoopVC.weak [(.cell 2 1, .nil 3 (.int .i64)), (.cell 2 2, .nil 25 (.slice MsgT))] (fun a : Nat × List Int × Int × List Int × List (List Msg) => [(35, .i .i64 a.1)]) (fun a => [(1, .box [.sl (.int .u8) a.2.1, .i .i64 a.2.2.1]), (4, .arr 3 (.int .i64) a.2.2.2.1), (5, .arr 25 (.slice MsgT) a.2.2.2.2)]) (fun a => (a.1 : Int) ≤ max M 0 ∧ a.2.1 <:+ b ∧ a.2.2.2.1.length = a.1 ∧ a.2.2.2.2.length = a.1 ∧ a.2.2.2.2.flatten.length + a.2.1.length ≤ b.length ∧ (∀ l ∈ a.2.2.2.2, ∀ m ∈ l, 0 ≤ m.1) ∧ ∀ n, checkI n = 0 → nnI n → layI n = b → M = n.2.1.length ∧ acc = n.1 ∧ a.2.1 = kfrom (n.2.1.drop a.1) (n.2.2.drop a.1) ∧ a.2.2.1 = 0 ∧ a.2.2.2.1 = n.2.1.take a.1 ∧ a.2.2.2.2 = n.2.2.take a.1) (fun a => 7 - a.1) (0, rb, re, [], []) (Ev.mk ?_)
  (conv => whnf)
  refine ⟨Leaf.mk ?_, Leaf.mk ?_, ?_⟩
  · rfl
  · have := suf_len hrb
    refine ⟨by dsimp only; omega, hrb, rfl, rfl, by dsimp only; simp; exact this, fun l hl => by simp at hl, fun n hc hn hb => ?_⟩
    obtain ⟨h1, h3, h4, h5⟩ := hv1 n hc hn hb
    exact ⟨h1, h5, h3, h4, rfl, rfl⟩
  clear hv1 hrb
  intro ⟨i, rb, re, ks, bs⟩ ⟨hi, hrb, hks, hbs, hfl, hnn, hv⟩
  dsimp only at hi hrb hks hbs hfl hnn hv ⊢
  have hrl := suf_len hrb
  have hs1 := rdSmall_suf rb re
  have hs2 := rdSmall_suf (rdSmall rb re).2.1 (rdSmall rb re).2.2
  have hs1l := suf_len hs1
  have hs2l := suf_len hs2
  repeat' (first | ((with_reducible refine Ev.mk ?_); conv => whnf) | (with_reducible refine And.intro ?_ ?_) | (intro h))
  all_goals (try simp only [decide_eq_true_eq, decide_eq_false_iff_not, beq_iff_eq, bne_iff_ne, beq_eq_false_iff_ne, bne_eq_false_iff_eq, Int.toNat_natCast, ge_iff_le, gt_iff_lt, Bool.not_eq_true', Bool.not_eq_false', Int.not_lt, Int.not_le, ne_eq] at *)
  all_goals (try dsimp only [Ty.den, Ty.dflt, InT, sNew, sSmall, sText, sLeft] at *)
  all_goals (try simp only [eq4, ne4, eq3, ne3, eq2, ne2, Prod.eta, List.length_cons, List.length_nil, List.length_append, Nat.zero_add] at *)
  all_goals (try simp (disch := omega) only [wrap64] at *)
  all_goals try first | exact leafDraw (by kernel_rfl) | exact Leaf.mk trivial | (refine Leaf.mk ?_; omega) | (refine Leaf.mk ?_; unfold maxLen; omega)
  · have hRB := hs2.trans (hs1.trans hrb)
    have hcut := suf_cut hRB
    simp only [hcut]
    clear hcut
    have hk : ∀ n, checkI n = 0 → nnI n → layI n = b → M = n.2.1.length ∧ acc = n.1 ∧ (rdSmall rb re).1 = n.2.1.getD i 0 ∧ (rdSmall (rdSmall rb re).2.1 (rdSmall rb re).2.2).1 = (((n.2.2.getD i []).length : Nat) : Int) ∧ (rdSmall (rdSmall rb re).2.1 (rdSmall rb re).2.2).2.1 = (n.2.2.getD i []).flatMap pm ++ kfrom (n.2.1.drop (i + 1)) (n.2.2.drop (i + 1)) ∧ ks = n.2.1.take i ∧ bs = n.2.2.take i := fun n hc hn hb => by
      obtain ⟨h1, h2, h3, h4, h5, h6⟩ := hv n hc hn hb
      have v := valI hc
      obtain ⟨g1, g2⟩ := v.kid (i := i) (by omega)
      rw [h3, h4, g1]
      dsimp only
      rw [g2]
      exact ⟨h1, h2, rfl, rfl, rfl, h5, h6⟩
    generalize hk1 : (rdSmall rb re).1 = k1 at *
    have hR2 : ((rdSmall (rdSmall rb re).2.1 (rdSmall rb re).2.2).2.1).length ≤ rb.length := by omega
    generalize (rdSmall (rdSmall rb re).2.1 (rdSmall rb re).2.2).1 = k2 at *
    generalize (rdSmall (rdSmall rb re).2.1 (rdSmall rb re).2.2).2.1 = R2 at *
    clear hv hs1 hs2 hs1l hs2l
    refine LoopVC.weak [(.slot 8, .nil 32 MsgT)] (fun a : Nat × List Int × List Msg => [(11, .i .i64 a.1), (10, .sl (.int .u8) a.2.1)]) (fun a => [(2, .arr 32 MsgT a.2.2)]) (fun a => a.2.1 <:+ b ∧ a.2.2.length = a.1 ∧ a.1 + a.2.1.length ≤ R2.length ∧ (∀ m ∈ a.2.2, 0 ≤ m.1) ∧ ∀ n, checkI n = 0 → nnI n → layI n = b → a.1 ≤ (n.2.2.getD i []).length ∧ a.2.1 = ((n.2.2.getD i []).drop a.1).flatMap pm ++ kfrom (n.2.1.drop (i + 1)) (n.2.2.drop (i + 1)) ∧ a.2.2 = (n.2.2.getD i []).take a.1) (fun a => a.2.1.length) (0, R2, []) (Ev.mk ?_)
    (conv => whnf)
    refine ⟨Leaf.mk ?_, Leaf.mk ?_, ?_⟩
    · rfl
    · refine ⟨hRB, rfl, by dsimp only; omega, fun m hm => by simp at hm, fun n hc hn hb => ?_⟩
      obtain ⟨h1, h2, h3, h4, h5, h6⟩ := hk n hc hn hb
      exact ⟨Nat.zero_le _, h5, rfl⟩
    intro ⟨j, rest, buf⟩ ⟨hrs, hbl, hjl, hnb, hw⟩
    dsimp only at hrs hbl hjl hnb hw ⊢
    have hrsl := suf_len hrs
    repeat' (first | ((with_reducible refine Ev.mk ?_); conv => whnf) | (with_reducible refine And.intro ?_ ?_) | (intro h))
    all_goals (try simp only [decide_eq_true_eq, decide_eq_false_iff_not, beq_iff_eq, bne_iff_ne, beq_eq_false_iff_ne, bne_eq_false_iff_eq, Int.toNat_natCast, ge_iff_le, gt_iff_lt, Bool.not_eq_true', Bool.not_eq_false', Int.not_lt, Int.not_le, ne_eq] at *)
    all_goals (try dsimp only [Ty.den, Ty.dflt, InT, sNew, sMGet] at *)
    all_goals (try simp only [eq4, ne4, eq3, ne3, eq2, ne2, Prod.eta, List.length_cons, List.length_nil, List.length_append, Nat.zero_add] at *)
    all_goals (try simp (disch := omega) only [wrap64] at *)
    all_goals try first | exact leafDraw (by kernel_rfl) | exact Leaf.mk trivial | (refine Leaf.mk ?_; omega) | (refine Leaf.mk ?_; unfold maxLen; omega)
    all_goals try
      have hst := getM_step (b := rest) ‹(getM rest).2.2 = 0›
    · refine Leaf.mk (retGi (u := (inn0, 4)) (v := getI b) (getI_not fun n hc hn hb => ?_).symm)
      obtain ⟨h1, h2, h3, h4, h5, h6, h7⟩ := hk n hc hn hb
      obtain ⟨g1, g2, g3⟩ := hw n hc hn hb
      have v := valI hc
      have h9 := (v.msg hn (i := i) (j := j) (by have := v.w1; omega) (by omega) (kfrom (n.2.1.drop (i + 1)) (n.2.2.drop (i + 1)))).1
      rw [← g2] at h9
      exact absurd (by rw [h9]) ‹¬ (getM rest).2.2 = 0›
    · exact Leaf.mk (by omega)
    · exact Leaf.mk (by omega)
    · refine Leaf.mk (Exists.intro (j + 1, rest.drop (getM rest).2.1.toNat, buf ++ [(getM rest).1]) ⟨?_, ⟨(List.drop_suffix _ _).trans hrs, by dsimp only; rw [List.length_append, List.length_singleton]; omega, by dsimp only; rw [List.length_drop]; omega, fun m hm => ?_, fun n hc hn hb => ?_⟩, by dsimp only; rw [List.length_drop]; omega⟩)
      · rw [List.take_length]; rfl
      · rcases List.mem_append.1 hm with hm | hm
        · exact hnb m hm
        · rw [List.mem_singleton] at hm; subst hm; exact getM_nn (fun x h => hB x (hrs.subset h))
      · obtain ⟨h1, h2, h3, h4, h5, h6, h7⟩ := hk n hc hn hb
        obtain ⟨g1, g2, g3⟩ := hw n hc hn hb
        have v := valI hc
        have hjl : j < (n.2.2.getD i []).length := by omega
        obtain ⟨q1, q2⟩ := v.msg hn (i := i) (j := j) (by have := v.w1; omega) hjl (kfrom (n.2.1.drop (i + 1)) (n.2.2.drop (i + 1)))
        rw [← g2] at q1 q2
        dsimp only
        rw [q1]
        dsimp only
        rw [Int.toNat_natCast, q2, g3]
        exact ⟨by omega, rfl, (take_at msg0 hjl).symm⟩
    · refine Leaf.mk (Exists.intro (i + 1, rest, 0, ks ++ [k1], bs ++ [buf]) ⟨rfl, ⟨by dsimp only; omega, hrs, by dsimp only; rw [List.length_append, List.length_singleton]; omega, by dsimp only; rw [List.length_append, List.length_singleton]; omega, ?_, fun l hl => ?_, fun n hc hn hb => ?_⟩, by dsimp only; omega⟩)
      · dsimp only
        rw [List.flatten_append, List.length_append, List.flatten_cons, List.flatten_nil, List.append_nil]; omega
      · rcases List.mem_append.1 hl with hl | hl
        · exact hnn l hl
        · rw [List.mem_singleton] at hl; subst hl; exact hnb
      · obtain ⟨h1, h2, h3, h4, h5, h6, h7⟩ := hk n hc hn hb
        obtain ⟨g1, g2, g3⟩ := hw n hc hn hb
        have v := valI hc
        have hi9 : i < n.2.1.length := by omega
        have hj9 : j = (n.2.2.getD i []).length := by omega
        dsimp only
        rw [hj9, List.drop_length, List.flatMap_nil, List.nil_append] at g2
        rw [hj9, List.take_length] at g3
        rw [h6, h7, h3, g3, take_at (0 : Int) hi9, take_at ([] : List Msg) (show i < n.2.2.length by have := v.w1; omega)]
        exact ⟨h1, h2, g2, rfl, rfl, rfl⟩
  all_goals try
    have hend : ∀ n, checkI n = 0 → nnI n → layI n = b → (acc, ks, bs) = n := fun n hc hn hb => by
      obtain ⟨h1, h2, h3, h4, h5, h6⟩ := hv n hc hn hb
      have := (valI hc).w1
      rw [List.take_of_length_le (by omega)] at h5 h6
      obtain ⟨x, y, z⟩ := n
      dsimp only at h2 h5 h6
      rw [h2, h5, h6]
    have hnI : nnI (acc, ks, bs) := hnn
  · exact Leaf.mk (show IPre (acc, ks, bs) from ⟨by dsimp only; omega, fun p hp => by have := hat p hp; omega, by dsimp only; omega, by dsimp only; omega, by dsimp only; omega⟩)
  · exact Leaf.mk (retGi (u := (inn0, 4)) (v := getI b) (finI_bad hend (show ¬ (putI (acc, ks, bs)).2 = 0 from ‹_›)).symm)
  · exact Leaf.mk (retGi (u := (inn0, 4)) (v := getI b) (finI_not hend (show (putI (acc, ks, bs)).2 = 0 from ‹_›) (fun hc => beq_eq_false_iff_ne.1 (show (strOfBytes b == strOfBytes (putI (acc, ks, bs)).1) = false from ‹_›) hc.symm)).symm)
  · exact Leaf.mk (retGi (u := ((acc, ks, bs), 0)) (v := getI b) (finI_yes hB hnI (show (putI (acc, ks, bs)).2 = 0 from ‹_›) (beq_iff_eq.1 (show (strOfBytes b == strOfBytes (putI (acc, ks, bs)).1) = true from ‹_›)).symm).symm)
end Go.Proofs.Ytoedpnniaikfbaa

set_option linter.unusedVariables false
set_option linter.unusedSimpArgs false
set_option maxRecDepth 8000
set_option maxHeartbeats 4000000
namespace Go.Proofs.Ytoedpnniaikfbaa
open Go.Eng
def twoI : Inn := ([[109]], [1, 2], [[], []])
def sTwo : PSpec := ⟨[], [⟨true, [.d InT]⟩], fun _ => True, fun _ => ((twoI, ()), ())⟩
theorem fTwo : FnOk Try.prog 92 := ⟨_, Try.func92, by decide, rfl⟩
theorem pTwo : PSound Try.prog 92 sTwo := by
  refine psound (T := tab) (S := (spOf [])) (keep := k92) (by kernel_rfl) tabOk spNil (by kernel_rfl) Try.func92 (by kernel_rfl) (by decide) fun xs hg hp => ?_
  obtain ⟨⟩ := xs
  show vfun tab _ k92 Try.f92 [] [] _
  refine Ev.out ?_
  repeat' (first | ((with_reducible refine Ev.mk ?_); conv => whnf) | (with_reducible refine And.intro ?_ ?_) | (intro h; first | exact absurd h (by decide +kernel) | skip))
  all_goals first
    | exact Leaf.mk rfl
    | skip
def sAwake15 : PSpec := ⟨[], [⟨false, [.d .bool]⟩], fun _ => True, fun _ => ((true, ()), ())⟩
theorem fAwake15 : FnOk Try.prog 38 := ⟨_, Try.func38, by decide, rfl⟩
theorem pAwake15 : PSound Try.prog 38 sAwake15 := by
  refine psound (T := tab) (S := (spOf [(92, sTwo.spec (lsOf [])), (45, sIAdd.spec (lsOf [])), (40, sITake.spec (lsOf [])), (93, sIPut.spec (lsOf [])), (94, sIGet.spec (lsOf [])), (47, sIRenew.spec (lsOf [])), (49, sIGrow.spec (lsOf [])), (42, sISplit.spec (lsOf [])), (52, sBounds.spec (lsOf [])), (54, sWeigh.spec (lsOf [])), (95, sFullest.spec (lsOf [])), (55, sISize.spec (lsOf [])), (96, sISame.spec (lsOf [])), (53, sRoute.spec (lsOf [])), (51, sICheck.spec (lsOf []))])) (keep := k38) (by kernel_rfl) tabOk (spCons (pOk pTwo fTwo (by decide) lsNil) (spCons (pOk pIAdd fIAdd (by decide) lsNil) (spCons (pOk pITake fITake (by decide) lsNil) (spCons (pOk pIPut fIPut (by decide) lsNil) (spCons (pOk pIGet fIGet (by decide) lsNil) (spCons (pOk pIRenew fIRenew (by decide) lsNil) (spCons (pOk pIGrow fIGrow (by decide) lsNil) (spCons (pOk pISplit fISplit (by decide) lsNil) (spCons (pOk pBounds fBounds (by decide) lsNil) (spCons (pOk pWeigh fWeigh (by decide) lsNil) (spCons (pOk pFullest fFullest (by decide) lsNil) (spCons (pOk pISize fISize (by decide) lsNil) (spCons (pOk pISame fISame (by decide) lsNil) (spCons (pOk pRoute fRoute (by decide) lsNil) (spCons (pOk pICheck fICheck (by decide) lsNil) spNil))))))))))))))) (by kernel_rfl) Try.func38 (by kernel_rfl) (by decide) fun xs hg hp => ?_
  obtain ⟨⟩ := xs
  show vfun tab _ k38 Try.f38 [] [] _
  refine Ev.out ?_
  repeat' (first | ((with_reducible refine Ev.mk ?_); conv => whnf) | (with_reducible refine And.intro ?_ ?_) | (intro h; first | exact absurd h (by decide +kernel) | skip))
  all_goals first
    | exact Leaf.mk trivial
    | exact leafDraw (by kernel_rfl)
    | (refine Leaf.mk ?_; change IPre _; decide +kernel)
    | (refine Leaf.mk ?_; change (_ : Nat) ≤ _; decide +kernel)
    | (refine Leaf.mk ?_; change (_ : Nat) ≤ _ ∧ (_ : Nat) ≤ _; decide +kernel)
    | (refine Leaf.mk ?_; decide +kernel)
    | exact Leaf.mk rfl
    | skip
end Go.Proofs.Ytoedpnniaikfbaa

set_option linter.unusedVariables false
set_option linter.unusedSimpArgs false
set_option maxRecDepth 8000
set_option maxHeartbeats 4000000
namespace Go.Proofs.Ytoedpnniaikfbaa
open Go.Eng
theorem ipre_sets {ps : List (List UInt8)} {ks : List Int} {bs : List (List Msg)} (hp : ps.length ≤ 20) (ht : ∀ p ∈ ps, p.length ≤ 1000) (hk : ks.length ≤ 20) (hb : bs.length ≤ 20) (hB : ∀ b ∈ bs, b.length ≤ 30) : IPre (ps, ks, bs) := by
  refine ⟨hp, ht, hk, hb, ?_⟩
  have := flat_len2 (f := id) (m := 30) (l := bs) hB
  rw [List.flatMap_id] at this
  dsimp only
  omega
theorem set_len30 {bs : List (List Msg)} {k : Nat} (hB : ∀ b ∈ bs, b.length ≤ 30) : ∀ b ∈ bs.set k [], b.length ≤ 30 := fun b hb => by
  rcases List.mem_or_eq_of_mem_set hb with h | rfl
  · exact hB b h
  · simp
theorem ins_len30 {bs : List (List Msg)} {k : Nat} (hB : ∀ b ∈ bs, b.length ≤ 30) : ∀ b ∈ insK k [] bs, b.length ≤ 30 := fun b hb => by
  rcases insK_mem hb with rfl | h
  · simp
  · exact hB b h
theorem sle_not {a b : List UInt8} (h : (sless a b || a == b) = false) : b < a := by
  rw [sleN, Bool.not_eq_false'] at h; exact sless_iff.1 h
theorem sle_not' {a b : List UInt8} (h : (decide (a < b) || a == b) = false) : b < a := sle_not (by rw [sless_eq]; exact h)
theorem beq_eqI {a b : Nat} : (((a : Nat) : Int) == ((b : Nat) : Int)) = decide (a = b) := by
  rw [Bool.eq_iff_iff, beq_iff_eq, decide_eq_true_eq]; omega
def sInnerKids : PSpec := lawSpec [InT, .str, .int .u8]
theorem pInnerKids : PSound Try.prog 10 sInnerKids := by
  refine psound (T := tab) (S := (spOf [(37, sLightI.spec (lsOf [])), (39, sOwnL.spec (lsOf [])), (51, sICheck.spec (lsOf [])), (52, sBounds.spec (lsOf [])), (53, sRoute.spec (lsOf [])), (40, sITake.spec (lsOf [])), (47, sIRenew.spec (lsOf [])), (49, sIGrow.spec (lsOf [])), (54, sWeigh.spec (lsOf [])), (55, sISize.spec (lsOf [])), (38, sAwake15.spec (lsOf []))])) (keep := k10) (by kernel_rfl) tabOk (spCons (pOk pLightI fLightI (by decide) lsNil) (spCons (pOk pOwnL fOwnL (by decide) lsNil) (spCons (pOk pICheck fICheck (by decide) lsNil) (spCons (pOk pBounds fBounds (by decide) lsNil) (spCons (pOk pRoute fRoute (by decide) lsNil) (spCons (pOk pITake fITake (by decide) lsNil) (spCons (pOk pIRenew fIRenew (by decide) lsNil) (spCons (pOk pIGrow fIGrow (by decide) lsNil) (spCons (pOk pWeigh fWeigh (by decide) lsNil) (spCons (pOk pISize fISize (by decide) lsNil) (spCons (pOk pAwake15 fAwake15 (by decide) lsNil) spNil))))))))))) (by kernel_rfl) Try.func10 (by kernel_rfl) (by decide) fun xs hg hp => ?_
  obtain ⟨⟨ps, ks, bs⟩, key, q, ⟨⟩⟩ := xs
  clear hp
  obtain ⟨-, -, hgq, -⟩ := hg
  change List (List UInt8) at ps
  change List Int at ks
  change List (List Msg) at bs
  change List UInt8 at key
  change Int at q
  have hq := bdu8 hgq
  clear hgq
  show vfun tab _ k10 Try.f10 [.agg [.sl .str ps, .sl (.int .i64) ks, .sl (.slice MsgT) bs], .s key, .i .u8 q] [] _
  refine Ev.out ?_
  repeat' (first | ((with_reducible refine Ev.mk ?_); conv => whnf) | (with_reducible refine And.intro ?_ ?_) | (intro h))
  all_goals (try simp only [decide_eq_true_eq, decide_eq_false_iff_not, beq_iff_eq, bne_iff_ne, beq_eq_false_iff_ne, bne_eq_false_iff_eq, Int.toNat_natCast, ge_iff_le, gt_iff_lt, Bool.not_eq_true', Bool.not_eq_false', Int.not_lt, Int.not_le, ne_eq] at *)
  all_goals (try dsimp only [Ty.den, Ty.dflt, InT, sLightI, sICheck, sOwnL, sAwake15] at *)
  all_goals (try simp only [eq4, ne4, eq3, ne3, eq2, ne2, Prod.eta, List.length_cons, List.length_nil, List.length_append, Nat.zero_add] at *)
  all_goals (try simp (disch := omega) only [wrap64] at *)
  all_goals try first | exact leafDraw (by kernel_rfl) | exact Leaf.mk trivial | (refine Leaf.mk ?_; omega) | (refine Leaf.mk ?_; unfold maxLen; omega)
  all_goals first
    | exact Leaf.mk rfl
    | skip
  all_goals
    have hL := lightI_pre (show lightI (ps, ks, bs) = true by assumption)
    obtain ⟨hI, hB⟩ := hL
    have hbb := hI.b
    dsimp only at hB hbb
  all_goals first
    | exact Leaf.mk hI
    | skip
  have hc0 : checkI (ps, ks, bs) = 0 := by assumption
  have v := valI hc0
  have k2 := v.k2
  have k6 := v.k6
  have w1 := v.w1
  have w2 := v.w2
  dsimp only at k2 k6 w1 w2
  obtain ⟨k, hk, hkl⟩ : ∃ k : Nat, q.tmod (ks.length : Int) = (k : Int) ∧ k < ks.length := by
    obtain ⟨q, rfl⟩ := Int.eq_ofNat_of_zero_le hq.1
    refine ⟨q % ks.length, ?_, Nat.mod_lt _ (by omega)⟩
    rw [Int.tmod_eq_emod_of_nonneg (by omega)]; rfl
  have hppl := v.ps
  have hpl : ps.length ≤ 20 := hI.p
  dsimp only at hppl
  have ht1 : IPre (takeI (ps, ks, bs) k).2 := by
    rw [take_eq v hkl]
    exact ipre_sets hpl (fun p hp => by have := hppl p hp; omega) (by dsimp only; omega) (by dsimp only; rw [List.length_set]; exact hbb) (set_len30 hB)
  have ht2 : IPre (renewI (takeI (ps, ks, bs) k).2 k 5) := by
    rw [renewI]
    split
    · have h1 := ht1.k
      exact ⟨ht1.p, ht1.pt, by dsimp only; rw [List.length_set]; exact h1, ht1.b, ht1.m⟩
    · exact ht1
  have hge : growI (renewI (takeI (ps, ks, bs) k).2 k 5) k 6 key = grown (ps, ks, bs) k key := grow_eq v hkl
  have htc := take_check hc0 (k := k) hkl
  have htw := take_weigh v (k := k) hkl
  have hrle := routeI_le ps key
  refine LoopVC.on (fun i : Nat => [(8, .i .i64 (if routeI ps key < i then 1 else 0)), (9, .i .i64 i)]) (fun _ => []) (fun i => i ≤ ks.length) (fun i => ks.length - i) 0 rfl (by omega) ?_
  intro i hi
  have hbr : i < ks.length → ((¬ key < loI (ps, ks, bs) i ∧ (hiI (ps, ks, bs) i = [] ∨ key < hiI (ps, ks, bs) i)) ↔ routeI ps key = i) := fun h => bounds_route v key h
  have s1 : routeI ps key = i → ((if routeI ps key < i then 1 else 0) + 1 : Int) = if routeI ps key < i + 1 then 1 else 0 := fun h => by rw [if_neg (by omega), if_pos (by omega)]; rfl
  have s2 : ¬ routeI ps key = i → (if routeI ps key < i then (1 : Int) else 0) = if routeI ps key < i + 1 then 1 else 0 := fun h => by
    by_cases h1 : routeI ps key < i
    · rw [if_pos h1, if_pos (by omega)]
    · rw [if_neg h1, if_neg (by omega)]
  repeat' (first | ((with_reducible refine Ev.mk ?_); conv => whnf) | (with_reducible refine And.intro ?_ ?_) | (intro h))
  all_goals (try simp only [decide_eq_true_eq, decide_eq_false_iff_not, beq_iff_eq, bne_iff_ne, beq_eq_false_iff_ne, bne_eq_false_iff_eq, Int.toNat_natCast, ge_iff_le, gt_iff_lt, Bool.not_eq_true', Bool.not_eq_false', Int.not_lt, Int.not_le, ne_eq] at *)
  all_goals (try dsimp only [Ty.den, Ty.dflt, InT, sLightI, sICheck, sOwnL, sAwake15, sBounds, sRoute, sITake, sWeigh, sIRenew, sIGrow, sISize] at *)
  all_goals (try simp only [eq4, ne4, eq3, ne3, eq2, ne2, Prod.eta, List.length_cons, List.length_nil, List.length_append, Nat.zero_add] at *)
  all_goals (try simp (disch := omega) only [wrap64] at *)
  all_goals try first | exact leafDraw (by kernel_rfl) | exact Leaf.mk trivial | (refine Leaf.mk ?_; omega) | (refine Leaf.mk ?_; unfold maxLen; omega)
  all_goals try simp only [hk, beq_eqI, sless_eq, decide_eq_true_eq, decide_eq_false_iff_not, htc, htw, hge] at *
  all_goals first
    | exact Leaf.mk rfl
    | exact absurd trivial ‹¬ True›
    | exact Leaf.mk ht1
    | exact Leaf.mk ht2
    | (refine Leaf.mk ?_; simp [inK, IntKind.min, IntKind.max]; omega)
    | skip
  all_goals try
    have hb := hbr (by omega)
    clear hbr hge htc htw ht1 ht2 hrle v hc0 hI hB hbb k2 k6 w1 w2 hk hkl hppl hpl hq
    first
      | (exfalso; clear s1 s2; simp_all; done)
      | (have hr : routeI ps key = i := by clear s1 s2; simp_all
         refine Leaf.mk (Exists.intro (i + 1) ⟨?_, by omega, by omega⟩)
         rw [s1 hr]; rfl)
      | (have hr : ¬ routeI ps key = i := by clear s1 s2; simp_all
         refine Leaf.mk (Exists.intro (i + 1) ⟨?_, by omega, by omega⟩)
         rw [s2 hr]; rfl)
      | (have hr : ¬ routeI ps key = i := fun hc => by rcases (hb.2 hc).2 with h1 | h1 <;> contradiction
         refine Leaf.mk (Exists.intro (i + 1) ⟨?_, by omega, by omega⟩)
         rw [s2 hr]; rfl)
  all_goals
    have h9 : hiI (ps, ks, bs) k = [] ∨ key < hiI (ps, ks, bs) k := by first | exact .inl (by assumption) | exact .inr (by assumption)
    have h8 : loI (ps, ks, bs) k < key := sle_not' (by assumption)
    obtain ⟨hgl, hgc⟩ := grow_check hc0 hkl (key := key) (by omega) h8 h9
    have hgr := grow_route v hkl h8 h9
    have hgi : IPre (grown (ps, ks, bs) k key) := by
      refine ipre_sets ?_ (fun p hp => ?_) ?_ ?_ (ins_len30 (set_len30 hB))
      · rw [insK_len (by dsimp only; omega)]; dsimp only; omega
      · rcases insK_mem hp with rfl | hp
        · omega
        · have := hppl p hp; omega
      · rw [insK_len (by rw [List.length_set]; dsimp only; omega), List.length_set]; dsimp only; omega
      · rw [insK_len (by rw [List.length_set]; dsimp only; omega), List.length_set]; dsimp only; omega
    dsimp only at hgl
  all_goals first
    | exact Leaf.mk hgi
    | (exfalso; omega)
    | skip
end Go.Proofs.Ytoedpnniaikfbaa
