import Derived.Test.YtjifalccioebnaaQ8
import Derived.Test.YtjifalccioebnaaQ11
/- Texts, one behind the other. -/
set_option linter.unusedVariables false
set_option linter.unusedSimpArgs false
set_option maxRecDepth 8000
set_option maxHeartbeats 4000000
namespace Go.Proofs.Ytjifalccioebnaa
open Go.Eng
def sHasPrefix : PSpec := ⟨[.d BT, .d BT], [⟨false, [.d .bool]⟩], fun _ => True, fun x => ((hasPre x.1 x.2.1, ()), ())⟩
theorem fHasPrefix : FnOk Try.prog 79 := ⟨_, Try.func79, by decide, rfl⟩
theorem pHasPrefix : PSound Try.prog 79 sHasPrefix := by
  refine psound (T := tab) (S := (spOf [(51, sBEqual.spec (lsOf []))])) (keep := k79) (by kernel_rfl) tabOk (spCons (pOk pBEqual fBEqual (by decide) lsNil) spNil) (by kernel_rfl) Try.func79 (by kernel_rfl) (by decide) fun xs hg hp => ?_
  obtain ⟨b, c, ⟨⟩⟩ := xs
  change List Int at b c
  show vfun tab _ k79 Try.f79 [.sl (.int .u8) b, .sl (.int .u8) c] [] _
  refine Ev.out ?_
  repeat' (first | ((with_reducible refine Ev.mk ?_); conv => whnf) | (with_reducible refine And.intro ?_ ?_) | (intro h))
  all_goals (try simp only [decide_eq_true_eq, decide_eq_false_iff_not, beq_iff_eq, bne_iff_ne, beq_eq_false_iff_ne, bne_eq_false_iff_eq, Int.toNat_natCast, ge_iff_le, gt_iff_lt, Bool.not_eq_true', Bool.not_eq_false', Int.not_lt, Int.not_le, ne_eq] at *)
  all_goals (try dsimp only [Ty.den, Ty.dflt, MsgT, sBEqual] at *)
  all_goals (try simp only [eq4, ne4, eq3, ne3, eq2, ne2, Prod.eta, List.length_cons, List.length_nil, List.length_append, Nat.zero_add] at *)
  all_goals (try simp (disch := omega) only [wrap64] at *)
  all_goals try first | exact leafDraw (by kernel_rfl) | exact Leaf.mk trivial | (refine Leaf.mk ?_; omega) | (refine Leaf.mk ?_; unfold maxLen; omega)
  · refine Leaf.mk (ret1 (show _ = hasPre b c from ?_))
    rw [hasPre, decide_eq_true (by omega), Bool.true_and, Int.toNat_zero, List.drop_zero]
  · refine Leaf.mk (ret1 (show _ = hasPre b c from ?_))
    rw [hasPre, decide_eq_false (by omega), Bool.false_and]
def sMGet : PSpec := ⟨[.d BT], [⟨true, [.d MsgT]⟩, ⟨false, [.d (.int .i64)]⟩, ⟨false, [.d (.int .i64)]⟩], fun x => List.length (α := Int) x.1 ≤ 100000, fun x => (((getM x.1).1, ()), ((getM x.1).2.1, ()), ((getM x.1).2.2, ()), ())⟩
theorem retM {u v : Msg × Int × Int} (h : u = v) : (some ((u.1, ()), (u.2.1, ()), (u.2.2, ()), ()) : Option ((Msg × Unit) × (Int × Unit) × (Int × Unit) × Unit)) = some ((v.1, ()), (v.2.1, ()), (v.2.2, ()), ()) := by rw [h]
theorem suf_cutk (k : Int) {X r : List Int} (h : X <:+ r) : (k :: r).drop (((r.length + 1 : Nat) : Int) - ((X.length : Nat) : Int)).toNat = X := by
  obtain ⟨t, rfl⟩ := h
  rw [show (((t ++ X).length + 1 : Nat) : Int) - ((X.length : Nat) : Int) = ((t.length + 1 : Nat) : Int) by rw [List.length_append]; omega, Int.toNat_natCast, List.drop_succ_cons, List.drop_left]
theorem cut_all {α : Type} (l : List α) : l.take l.length = l := List.take_length
end Go.Proofs.Ytjifalccioebnaa

set_option linter.unusedVariables false
set_option linter.unusedSimpArgs false
set_option maxRecDepth 8000
set_option maxHeartbeats 4000000
namespace Go.Proofs.Ytjifalccioebnaa
open Go.Eng
theorem fMGet : FnOk Try.prog 50 := ⟨_, Try.func50, by decide, rfl⟩
theorem pMGet : PSound Try.prog 50 sMGet := by
  refine psound (T := tab) (S := (spOf [(62, sOf.spec (lsOf [])), (46, sNew.spec (lsOf [])), (48, sText.spec), (47, sSmall.spec), (49, sLeft.spec), (74, sMPut.spec (lsOf [])), (79, sHasPrefix.spec (lsOf []))])) (keep := k50) (by kernel_rfl) tabOk (spCons (pOk pOf fOf (by decide) lsNil) (spCons (.inl ⟨nOk lsNil pNew, fNew⟩) (spCons (.inl ⟨pText, fText⟩) (spCons (.inl ⟨pSmall, fSmall⟩) (spCons (.inl ⟨pLeft, fLeft⟩) (spCons (pOk pMPut fMPut (by decide) lsNil) (spCons (pOk pHasPrefix fHasPrefix (by decide) lsNil) spNil))))))) (by kernel_rfl) Try.func50 (by kernel_rfl) (by decide) fun xs hg hp => ?_
  obtain ⟨b, ⟨⟩⟩ := xs
  obtain ⟨⟨-, hx⟩, -⟩ := hg
  change List Int at b
  change b.length ≤ 100000 at hp
  have hB : isB b := isB_good hx
  clear hx
  cases b with
  | nil =>
  show vfun tab _ k50 Try.f50 [.sl (.int .u8) []] [] _
  refine Ev.out ?_
  repeat' (first | ((with_reducible refine Ev.mk ?_); conv => whnf) | (with_reducible refine And.intro ?_ ?_) | (intro h))
  all_goals try first | exact leafDraw (by kernel_rfl) | exact Leaf.mk trivial | (refine Leaf.mk ?_; omega) | (refine Leaf.mk ?_; unfold maxLen; omega)
  all_goals first
    | exact Leaf.mk (retM (u := (msg0, 0, 4)) (v := getM []) rfl)
    | exact absurd ‹((([] : List Int).length : Int) == 0) = false› (by decide)
  | cons k r =>
  show vfun tab _ k50 Try.f50 [.sl (.int .u8) (k :: r)] [] _
  refine Ev.out ?_
  repeat' (first | ((with_reducible refine Ev.mk ?_); conv => whnf) | (with_reducible refine And.intro ?_ ?_) | (intro h; (try dsimp only [sOf, ofK] at h); (try simp only [beq_iff_eq, bne_iff_ne, beq_eq_false_iff_ne, bne_eq_false_iff_eq, decide_eq_true_eq, decide_eq_false_iff_not, ne_eq, Int.not_lt, Int.not_le, Bool.not_eq_true', Bool.not_eq_false'] at h); try (exfalso; omega)))
  all_goals try exact leafDraw (by kernel_rfl)
  all_goals try simp only [List.getD_cons_zero, Int.toNat_zero, show Int.toNat 1 = 1 from rfl, Int.toNat_natCast, cut_all, List.drop_succ_cons, List.drop_zero] at *
  all_goals try exact Leaf.mk trivial
  all_goals (try simp only [decide_eq_true_eq, decide_eq_false_iff_not, beq_iff_eq, bne_iff_ne, beq_eq_false_iff_ne, bne_eq_false_iff_eq, Int.toNat_natCast, ge_iff_le, gt_iff_lt, Bool.not_eq_true', Bool.not_eq_false', Int.not_lt, Int.not_le, ne_eq] at *)
  all_goals (try dsimp only [Ty.den, Ty.dflt, MsgT, sNew, sText, sSmall, sLeft, sMPut, sHasPrefix] at *)
  all_goals (try simp only [eq4, ne4, eq3, ne3, eq2, ne2, Prod.eta, List.length_cons, List.length_nil, List.length_append, Nat.zero_add] at *)
  all_goals (try simp (disch := omega) only [wrap64] at *)
  all_goals try first | exact leafDraw (by kernel_rfl) | exact Leaf.mk trivial | (refine Leaf.mk ?_; omega) | (refine Leaf.mk ?_; unfold maxLen; omega)
  all_goals
    have hk0 : 0 ≤ k := (hB k List.mem_cons_self).1
    have hrl : r.length + 1 ≤ 100000 := hp
    have hs1 := suf_len (rdText_suf r 0 16)
    have hs2 := suf_len (rdSmall_suf (rdText r 0 16).2.1 (rdText r 0 16).2.2)
  all_goals
    have hs3 := suf_len (rdSmall_suf r 0)
    have hs4 := suf_len (rdSmall_suf (rdSmall r 0).2.1 (rdSmall r 0).2.2)
    have hcut := suf_cutk k ((rdSmall_suf (rdText r 0 16).2.1 (rdText r 0 16).2.2).trans (rdText_suf r 0 16))
  all_goals try rw [wrap64 (by omega)] at *
  all_goals try simp only [hcut] at *
  all_goals try (refine Leaf.mk ?_; first | omega | (rw [List.length_drop]; omega))
  all_goals first
    | refine Leaf.mk (retM (u := (msg0, 0, 4)) (v := getM (k :: r)) ((fin_of hB ?_ ?_).bad ‹¬ (putR12 _).2 = 0›))
    | refine Leaf.mk (retM (u := (msg0, 0, 4)) (v := getM (k :: r)) ((fin_of hB ?_ ?_).nol ‹(putR12 _).2 = 0› ‹_ < _›))
    | refine Leaf.mk (retM (u := (msg0, 0, 4)) (v := getM (k :: r)) ((fin_of hB ?_ ?_).nos ‹(putR12 _).2 = 0› ‹¬ strOfBytes _ = _›))
    | refine Leaf.mk (retM (u := (msg0, 0, 4)) (v := getM (k :: r)) ((fin_of hB ?_ ?_).nop ‹(putR12 _).2 = 0› ‹hasPre _ _ = false›))
    | refine Leaf.mk (retM (u := (_, _, 0)) (v := getM (k :: r)) ((fin_of hB ?_ ?_).yess ‹(putR12 _).2 = 0› ‹strOfBytes _ = _›))
    | refine Leaf.mk (retM (u := (_, _, 0)) (v := getM (k :: r)) ((fin_of hB ?_ ?_).yesp ‹(putR12 _).2 = 0› ‹hasPre _ _ = true›))
  all_goals try exact rfl
  all_goals
    intro x s hx ok q
    have hts := q.ts
    have hk3 := ok.kind
    rw [hx] at hts hk3
  all_goals first
    | (exfalso; omega)
    | (have hkk : k = 0 := by omega
       subst hkk)
    | (have hkk : k = 1 := by omega
       subst hkk)
    | (have hkk : k = 2 := by omega
       subst hkk)
    | (have hkk : k = 3 := by omega
       subst hkk)
  all_goals
    simp only [rdTs, rdTxn, rdKey, readM, if_true, if_false, Int.reduceEq, true_or, or_true, false_or, or_false, true_and, false_and] at hts ⊢
  all_goals try exact rfl
  all_goals try (rw [if_pos (by omega)]; done)
  all_goals try (rw [if_neg (by omega)]; done)
  all_goals try (rw [if_pos (by omega)]; simp_all; done)
  all_goals try (exfalso; exact absurd (congrArg (fun p : Int × List Int × Int => p.2.2) hts) ‹¬ (rdSmall _ _).2.2 = 0›)
end Go.Proofs.Ytjifalccioebnaa

set_option linter.unusedVariables false
set_option linter.unusedSimpArgs false
set_option maxRecDepth 8000
set_option maxHeartbeats 4000000
namespace Go.Proofs.Ytjifalccioebnaa
open Go.Eng
def sIGet : PSpec := ⟨[.d BT], [⟨true, [.d InT]⟩, ⟨false, [.d (.int .i64)]⟩], fun x => List.length (α := Int) x.1 ≤ 5000, fun x => (((getI x.1).1, ()), ((getI x.1).2, ()), ())⟩
theorem retGi {u v : Inn × Int} (h : u = v) : (some ((u.1, ()), (u.2, ()), ()) : Option ((Inn × Unit) × (Int × Unit) × Unit)) = some ((v.1, ()), (v.2, ()), ()) := by rw [h]
theorem ValI.hd {n : Inn} {b : List Int} (h : ValI n) (hb : layI n = b) : rdSmall b 0 = (((n.2.1.length : Nat) : Int), n.1.flatMap putText ++ kfrom n.2.1 n.2.2, 0) := by
  subst hb
  have := h.k6
  rw [layI_eq h.w1, rdSmall_put (Int.natCast_nonneg _) (by omega)]
theorem kfrom_at {ks : List Int} {bs : List (List Msg)} {i : Nat} (h : bs.length = ks.length) (hi : i < ks.length) : kfrom (ks.drop i) (bs.drop i) = kb (ks.getD i 0) (bs.getD i []) ++ kfrom (ks.drop (i + 1)) (bs.drop (i + 1)) := by
  rw [drop_at 0 hi, drop_at [] (show i < bs.length by omega), kfrom]
theorem ValI.kid {n : Inn} {i : Nat} (h : ValI n) (hi : i < n.2.1.length) : rdSmall (kfrom (n.2.1.drop i) (n.2.2.drop i)) 0 = (n.2.1.getD i 0, putSmall ((n.2.2.getD i []).length : Nat) ++ ((n.2.2.getD i []).flatMap pm ++ kfrom (n.2.1.drop (i + 1)) (n.2.2.drop (i + 1))), 0) ∧
    rdSmall (putSmall ((n.2.2.getD i []).length : Nat) ++ ((n.2.2.getD i []).flatMap pm ++ kfrom (n.2.1.drop (i + 1)) (n.2.2.drop (i + 1)))) 0 = ((((n.2.2.getD i []).length : Nat) : Int), (n.2.2.getD i []).flatMap pm ++ kfrom (n.2.1.drop (i + 1)) (n.2.2.drop (i + 1)), 0) := by
  have h1 := h.ks _ (getD_mem (xs := n.2.1) 0 hi)
  have h2 := h.bl (getD_mem (xs := n.2.2) [] (show i < n.2.2.length by have := h.w1; omega))
  rw [kfrom_at h.w1 hi, kb, max0_ok h1.1, List.append_assoc, List.append_assoc]
  exact ⟨rdSmall_put h1.1 h1.2 _, rdSmall_put (Int.natCast_nonneg _) (by omega) _⟩
theorem ValI.msg {n : Inn} {i j : Nat} (h : ValI n) (h0 : nnI n) (hi : i < n.2.2.length) (hj : j < (n.2.2.getD i []).length) (r : List Int) : getM (((n.2.2.getD i []).drop j).flatMap pm ++ r) = ((n.2.2.getD i []).getD j msg0, (((putM ((n.2.2.getD i []).getD j msg0)).length : Nat) : Int), 0) ∧
    (((n.2.2.getD i []).drop j).flatMap pm ++ r).drop (putM ((n.2.2.getD i []).getD j msg0)).length = ((n.2.2.getD i []).drop (j + 1)).flatMap pm ++ r := by
  have hb := getD_mem (xs := n.2.2) [] hi
  have hm := getD_mem (xs := n.2.2.getD i []) msg0 hj
  have h1 := h.ms _ hb _ hm
  rw [drop_at msg0 hj, List.flatMap_cons, List.append_assoc, pm_ok h1]
  exact ⟨getM_put (h0 _ hb _ hm) h1 (List.prefix_append _ _), List.drop_left' rfl⟩
theorem ValI.piv {n : Inn} {i : Nat} (h : ValI n) (hi : i < n.1.length) (r : List Int) : rdText ((n.1.drop i).flatMap putText ++ r) 0 16 = (n.1.getD i [], (n.1.drop (i + 1)).flatMap putText ++ r, 0) := by
  have h9 := h.ps _ (getD_mem (xs := n.1) [] hi)
  rw [drop_at [] hi, List.flatMap_cons, List.append_assoc, rdText_put (by omega)]
def min6 (x : Int) : Int := if 6 < x then 6 else x
theorem min6_of (x : Int) {inst : Decidable (6 < x)} : @ite Int (6 < x) inst 6 x = min6 x := by unfold min6; split <;> first | rfl | (split <;> first | rfl | omega)
theorem fIGet : FnOk Try.prog 22 := ⟨_, Try.func22, by decide, rfl⟩
theorem pIGet : PSound Try.prog 22 sIGet := by
  refine psound (T := tab) (S := (spOf [(46, sNew.spec (lsOf [])), (47, sSmall.spec), (48, sText.spec), (49, sLeft.spec), (50, sMGet.spec (lsOf [])), (21, sIPut.spec (lsOf [])), (51, sBEqual.spec (lsOf []))])) (keep := k22) (by kernel_rfl) tabOk (spCons (.inl ⟨nOk lsNil pNew, fNew⟩) (spCons (.inl ⟨pSmall, fSmall⟩) (spCons (.inl ⟨pText, fText⟩) (spCons (.inl ⟨pLeft, fLeft⟩) (spCons (pOk pMGet fMGet (by decide) lsNil) (spCons (pOk pIPut fIPut (by decide) lsNil) (spCons (pOk pBEqual fBEqual (by decide) lsNil) spNil))))))) (by kernel_rfl) Try.func22 (by kernel_rfl) (by decide) fun xs hg hp => ?_
  obtain ⟨b, ⟨⟩⟩ := xs
  obtain ⟨⟨-, hx⟩, -⟩ := hg
  change List Int at b
  change b.length ≤ 5000 at hp
  have hB : isB b := isB_good hx
  change ∀ x ∈ b, Eng.Good (.int .u8) x at hx
  have hb1 := rdSmall_suf b 0
  have hl1 := suf_len hb1
  show vfun tab _ k22 Try.f22 [.sl (.int .u8) b] [] _
  refine Ev.out ?_
  repeat' (first | ((with_reducible refine Ev.mk ?_); conv => whnf) | (with_reducible refine And.intro ?_ ?_) | (intro h))
  all_goals (try simp only [decide_eq_true_eq, decide_eq_false_iff_not, beq_iff_eq, bne_iff_ne, beq_eq_false_iff_ne, bne_eq_false_iff_eq, Int.toNat_natCast, ge_iff_le, gt_iff_lt, Bool.not_eq_true', Bool.not_eq_false', Int.not_lt, Int.not_le, ne_eq] at *)
  all_goals (try dsimp only [Ty.den, Ty.dflt, InT, sNew, sSmall] at *)
  all_goals (try simp only [eq4, ne4, eq3, ne3, eq2, ne2, Prod.eta, List.length_cons, List.length_nil, List.length_append, Nat.zero_add] at *)
  all_goals (try simp (disch := omega) only [wrap64] at *)
  all_goals try first | exact leafDraw (by kernel_rfl) | exact Leaf.mk trivial | (refine Leaf.mk ?_; omega) | (refine Leaf.mk ?_; unfold maxLen; omega)
  erw [min6_of]
  generalize hN : (rdSmall b 0).1 = N
  generalize hb0 : (rdSmall b 0).2.1 = b0 at *
  generalize he0 : (rdSmall b 0).2.2 = e0
  have h0 : ∀ n, checkI n = 0 → nnI n → layI n = b → min6 N = n.2.1.length ∧ b0 = n.1.flatMap putText ++ kfrom n.2.1 n.2.2 ∧ e0 = 0 := fun n hc hn hb => by
    have v := valI hc
    have h1 := v.hd hb
    have h2 := v.k6
    rw [h1] at hN hb0 he0
    refine ⟨?_, hb0.symm, he0.symm⟩
    rw [← hN, min6, if_neg (by dsimp only; omega)]
  have hM : min6 N ≤ 6 := by unfold min6; split <;> omega
  generalize min6 N = M at *
  refine LoopVC.weak [(.cell 2 0, .nil 9 .str)] (fun a : Nat × List Int × Int × List S8 => [(7, .i .i64 a.1)]) (fun a => [(1, .box [.sl (.int .u8) a.2.1, .i .i64 a.2.2.1]), (3, .arr 9 .str a.2.2.2)]) (fun a => 1 ≤ a.1 ∧ a.1 ≤ 7 ∧ a.2.1 <:+ b ∧ a.2.2.2.length + 1 = a.1 ∧ (∀ p ∈ a.2.2.2, p.length ≤ 16) ∧ ∀ n, checkI n = 0 → nnI n → layI n = b → M = n.2.1.length ∧ a.1 ≤ n.2.1.length ∧ a.2.1 = (n.1.drop (a.1 - 1)).flatMap putText ++ kfrom n.2.1 n.2.2 ∧ a.2.2.1 = 0 ∧ a.2.2.2 = n.1.take (a.1 - 1)) (fun a => 7 - a.1) (1, b0, e0, []) (Ev.mk ?_)
  (conv => whnf)
  refine ⟨Leaf.mk ?_, Leaf.mk ?_, ?_⟩
  · rfl
  · refine ⟨by dsimp only; omega, by dsimp only; omega, hb1, rfl, fun p hp => by simp at hp, fun n hc hn hb => ?_⟩
    have v := valI hc
    have h2 := v.k2
    obtain ⟨h1, h3, h4⟩ := h0 n hc hn hb
    exact ⟨h1, by dsimp only; omega, h3, h4, rfl⟩
  intro ⟨i, rb, re, acc⟩ ⟨hi1, hi7, hrb, hacc, hat, hv⟩
  dsimp only at hi1 hi7 hrb hacc hat hv ⊢
  have hrl := suf_len hrb
  repeat' (first | ((with_reducible refine Ev.mk ?_); conv => whnf) | (with_reducible refine And.intro ?_ ?_) | (intro h))
  all_goals (try simp only [decide_eq_true_eq, decide_eq_false_iff_not, beq_iff_eq, bne_iff_ne, beq_eq_false_iff_ne, bne_eq_false_iff_eq, Int.toNat_natCast, ge_iff_le, gt_iff_lt, Bool.not_eq_true', Bool.not_eq_false', Int.not_lt, Int.not_le, ne_eq] at *)
  all_goals (try dsimp only [Ty.den, Ty.dflt, InT, sNew, sSmall, sText] at *)
  all_goals (try simp only [eq4, ne4, eq3, ne3, eq2, ne2, Prod.eta, List.length_cons, List.length_nil, List.length_append, Nat.zero_add] at *)
  all_goals (try simp (disch := omega) only [wrap64] at *)
  all_goals try first | exact leafDraw (by kernel_rfl) | exact Leaf.mk trivial | (refine Leaf.mk ?_; omega) | (refine Leaf.mk ?_; unfold maxLen; omega)
  · have hts := rdText_suf rb re 16
    have htm := rdText_max9 rb re (m := 16) (by decide)
    refine Leaf.mk (Exists.intro (i + 1, (rdText rb re 16).2.1, (rdText rb re 16).2.2, acc ++ [(rdText rb re 16).1]) ⟨rfl, ⟨by dsimp only; omega, by dsimp only; omega, hts.trans hrb, by dsimp only; rw [List.length_append, List.length_singleton]; omega, fun p hp => ?_, fun n hc hn hb => ?_⟩, by dsimp only; omega⟩)
    · rcases List.mem_append.1 hp with hp | hp
      · exact hat p hp
      · rw [List.mem_singleton] at hp; subst hp; omega
    · obtain ⟨h1, h2, h3, h4, h5⟩ := hv n hc hn hb
      have v := valI hc
      have hw2 := v.w2
      have h6 := v.piv (i := i - 1) (by omega) (kfrom n.2.1 n.2.2)
      dsimp only
      rw [h3, h4, h6, h5, show i + 1 - 1 = i - 1 + 1 by omega]
      exact ⟨h1, by omega, rfl, rfl, (take_at [] (show i - 1 < n.1.length by omega)).symm⟩
  clear hrl
  have hv1 : ∀ n, checkI n = 0 → nnI n → layI n = b → M = n.2.1.length ∧ rb = kfrom n.2.1 n.2.2 ∧ re = 0 ∧ acc = n.1 := fun n hc hn hb => by
    obtain ⟨h1, h2, h3, h4, h5⟩ := hv n hc hn hb
    have hw2 := (valI hc).w2
    rw [drop_end (by omega)] at h3
    exact ⟨h1, h3, h4, by rw [h5, List.take_of_length_le (by omega)]⟩
  clear hv
  refine LoopVC.weak [(.cell 2 1, .nil 3 (.int .i64)), (.cell 2 2, .nil 32 (.slice MsgT))] (fun a : Nat × List Int × Int × List Int × List (List Msg) => [(35, .i .i64 a.1)]) (fun a => [(1, .box [.sl (.int .u8) a.2.1, .i .i64 a.2.2.1]), (4, .arr 3 (.int .i64) a.2.2.2.1), (5, .arr 32 (.slice MsgT) a.2.2.2.2)]) (fun a => (a.1 : Int) ≤ max M 0 ∧ a.2.1 <:+ b ∧ a.2.2.2.1.length = a.1 ∧ a.2.2.2.2.length = a.1 ∧ a.2.2.2.2.flatten.length + a.2.1.length ≤ b.length ∧ (∀ l ∈ a.2.2.2.2, ∀ m ∈ l, 0 ≤ m.1) ∧ ∀ n, checkI n = 0 → nnI n → layI n = b → M = n.2.1.length ∧ acc = n.1 ∧ a.2.1 = kfrom (n.2.1.drop a.1) (n.2.2.drop a.1) ∧ a.2.2.1 = 0 ∧ a.2.2.2.1 = n.2.1.take a.1 ∧ a.2.2.2.2 = n.2.2.take a.1) (fun a => 7 - a.1) (0, rb, re, [], []) (Ev.mk ?_)
  (conv => whnf)
  refine ⟨Leaf.mk ?_, Leaf.mk ?_, ?_⟩
  · rfl
  · have := suf_len hrb
    refine ⟨by dsimp only; omega, hrb, rfl, rfl, by dsimp only; simp; exact this, fun l hl => by simp at hl, fun n hc hn hb => ?_⟩
    obtain ⟨h1, h3, h4, h5⟩ := hv1 n hc hn hb
    exact ⟨h1, h5, h3, h4, rfl, rfl⟩
  clear hv1 hrb
  intro ⟨i, rb, re, ks, bs⟩ ⟨hi, hrb, hks, hbs, hfl, hnn, hv⟩
  dsimp only at hi hrb hks hbs hfl hnn hv ⊢
  have hrl := suf_len hrb
  have hs1 := rdSmall_suf rb re
  have hs2 := rdSmall_suf (rdSmall rb re).2.1 (rdSmall rb re).2.2
  have hs1l := suf_len hs1
  have hs2l := suf_len hs2
  repeat' (first | ((with_reducible refine Ev.mk ?_); conv => whnf) | (with_reducible refine And.intro ?_ ?_) | (intro h))
  all_goals (try simp only [decide_eq_true_eq, decide_eq_false_iff_not, beq_iff_eq, bne_iff_ne, beq_eq_false_iff_ne, bne_eq_false_iff_eq, Int.toNat_natCast, ge_iff_le, gt_iff_lt, Bool.not_eq_true', Bool.not_eq_false', Int.not_lt, Int.not_le, ne_eq] at *)
  all_goals (try dsimp only [Ty.den, Ty.dflt, InT, sNew, sSmall, sText, sLeft] at *)
  all_goals (try simp only [eq4, ne4, eq3, ne3, eq2, ne2, Prod.eta, List.length_cons, List.length_nil, List.length_append, Nat.zero_add] at *)
  all_goals (try simp (disch := omega) only [wrap64] at *)
  all_goals try first | exact leafDraw (by kernel_rfl) | exact Leaf.mk trivial | (refine Leaf.mk ?_; omega) | (refine Leaf.mk ?_; unfold maxLen; omega)
  · have hRB := hs2.trans (hs1.trans hrb)
    have hcut := suf_cut hRB
    simp only [hcut]
    clear hcut
    have hk : ∀ n, checkI n = 0 → nnI n → layI n = b → M = n.2.1.length ∧ acc = n.1 ∧ (rdSmall rb re).1 = n.2.1.getD i 0 ∧ (rdSmall (rdSmall rb re).2.1 (rdSmall rb re).2.2).1 = (((n.2.2.getD i []).length : Nat) : Int) ∧ (rdSmall (rdSmall rb re).2.1 (rdSmall rb re).2.2).2.1 = (n.2.2.getD i []).flatMap pm ++ kfrom (n.2.1.drop (i + 1)) (n.2.2.drop (i + 1)) ∧ ks = n.2.1.take i ∧ bs = n.2.2.take i := fun n hc hn hb => by
      obtain ⟨h1, h2, h3, h4, h5, h6⟩ := hv n hc hn hb
      have v := valI hc
      obtain ⟨g1, g2⟩ := v.kid (i := i) (by omega)
      rw [h3, h4, g1]
      dsimp only
      rw [g2]
      exact ⟨h1, h2, rfl, rfl, rfl, h5, h6⟩
    generalize hk1 : (rdSmall rb re).1 = k1 at *
    have hR2 : ((rdSmall (rdSmall rb re).2.1 (rdSmall rb re).2.2).2.1).length ≤ rb.length := by omega
    generalize (rdSmall (rdSmall rb re).2.1 (rdSmall rb re).2.2).1 = k2 at *
    generalize (rdSmall (rdSmall rb re).2.1 (rdSmall rb re).2.2).2.1 = R2 at *
    clear hv hs1 hs2 hs1l hs2l
    refine LoopVC.weak [(.slot 8, .nil 28 MsgT)] (fun a : Nat × List Int × List Msg => [(11, .i .i64 a.1), (10, .sl (.int .u8) a.2.1)]) (fun a => [(2, .arr 28 MsgT a.2.2)]) (fun a => a.2.1 <:+ b ∧ a.2.2.length = a.1 ∧ a.1 + a.2.1.length ≤ R2.length ∧ (∀ m ∈ a.2.2, 0 ≤ m.1) ∧ ∀ n, checkI n = 0 → nnI n → layI n = b → a.1 ≤ (n.2.2.getD i []).length ∧ a.2.1 = ((n.2.2.getD i []).drop a.1).flatMap pm ++ kfrom (n.2.1.drop (i + 1)) (n.2.2.drop (i + 1)) ∧ a.2.2 = (n.2.2.getD i []).take a.1) (fun a => a.2.1.length) (0, R2, []) (Ev.mk ?_)
    (conv => whnf)
    refine ⟨Leaf.mk ?_, Leaf.mk ?_, ?_⟩
    · rfl
    · refine ⟨hRB, rfl, by dsimp only; omega, fun m hm => by simp at hm, fun n hc hn hb => ?_⟩
      obtain ⟨h1, h2, h3, h4, h5, h6⟩ := hk n hc hn hb
      exact ⟨Nat.zero_le _, h5, rfl⟩
    intro ⟨j, rest, buf⟩ ⟨hrs, hbl, hjl, hnb, hw⟩
    dsimp only at hrs hbl hjl hnb hw ⊢
    have hrsl := suf_len hrs
    repeat' (first | ((with_reducible refine Ev.mk ?_); conv => whnf) | (with_reducible refine And.intro ?_ ?_) | (intro h))
    all_goals (try simp only [decide_eq_true_eq, decide_eq_false_iff_not, beq_iff_eq, bne_iff_ne, beq_eq_false_iff_ne, bne_eq_false_iff_eq, Int.toNat_natCast, ge_iff_le, gt_iff_lt, Bool.not_eq_true', Bool.not_eq_false', Int.not_lt, Int.not_le, ne_eq] at *)
    all_goals (try dsimp only [Ty.den, Ty.dflt, InT, sNew, sMGet] at *)
    all_goals (try simp only [eq4, ne4, eq3, ne3, eq2, ne2, Prod.eta, List.length_cons, List.length_nil, List.length_append, Nat.zero_add] at *)
    all_goals (try simp (disch := omega) only [wrap64] at *)
    all_goals try first | exact leafDraw (by kernel_rfl) | exact Leaf.mk trivial | (refine Leaf.mk ?_; omega) | (refine Leaf.mk ?_; unfold maxLen; omega)
    all_goals try
      have hst := getM_step (b := rest) ‹(getM rest).2.2 = 0›
    · refine Leaf.mk (retGi (u := (inn0, 4)) (v := getI b) (getI_not fun n hc hn hb => ?_).symm)
      obtain ⟨h1, h2, h3, h4, h5, h6, h7⟩ := hk n hc hn hb
      obtain ⟨g1, g2, g3⟩ := hw n hc hn hb
      have v := valI hc
      have h9 := (v.msg hn (i := i) (j := j) (by have := v.w1; omega) (by omega) (kfrom (n.2.1.drop (i + 1)) (n.2.2.drop (i + 1)))).1
      rw [← g2] at h9
      exact absurd (by rw [h9]) ‹¬ (getM rest).2.2 = 0›
    · exact Leaf.mk (by omega)
    · exact Leaf.mk (by omega)
    · refine Leaf.mk (Exists.intro (j + 1, rest.drop (getM rest).2.1.toNat, buf ++ [(getM rest).1]) ⟨?_, ⟨(List.drop_suffix _ _).trans hrs, by dsimp only; rw [List.length_append, List.length_singleton]; omega, by dsimp only; rw [List.length_drop]; omega, fun m hm => ?_, fun n hc hn hb => ?_⟩, by dsimp only; rw [List.length_drop]; omega⟩)
      · rw [List.take_length]; rfl
      · rcases List.mem_append.1 hm with hm | hm
        · exact hnb m hm
        · rw [List.mem_singleton] at hm; subst hm; exact getM_nn (fun x h => hB x (hrs.subset h))
      · obtain ⟨h1, h2, h3, h4, h5, h6, h7⟩ := hk n hc hn hb
        obtain ⟨g1, g2, g3⟩ := hw n hc hn hb
        have v := valI hc
        have hjl : j < (n.2.2.getD i []).length := by omega
        obtain ⟨q1, q2⟩ := v.msg hn (i := i) (j := j) (by have := v.w1; omega) hjl (kfrom (n.2.1.drop (i + 1)) (n.2.2.drop (i + 1)))
        rw [← g2] at q1 q2
        dsimp only
        rw [q1]
        dsimp only
        rw [Int.toNat_natCast, q2, g3]
        exact ⟨by omega, rfl, (take_at msg0 hjl).symm⟩
    · refine Leaf.mk (Exists.intro (i + 1, rest, 0, ks ++ [k1], bs ++ [buf]) ⟨rfl, ⟨by dsimp only; omega, hrs, by dsimp only; rw [List.length_append, List.length_singleton]; omega, by dsimp only; rw [List.length_append, List.length_singleton]; omega, ?_, fun l hl => ?_, fun n hc hn hb => ?_⟩, by dsimp only; omega⟩)
      · dsimp only
        rw [List.flatten_append, List.length_append, List.flatten_cons, List.flatten_nil, List.append_nil]; omega
      · rcases List.mem_append.1 hl with hl | hl
        · exact hnn l hl
        · rw [List.mem_singleton] at hl; subst hl; exact hnb
      · obtain ⟨h1, h2, h3, h4, h5, h6, h7⟩ := hk n hc hn hb
        obtain ⟨g1, g2, g3⟩ := hw n hc hn hb
        have v := valI hc
        have hi9 : i < n.2.1.length := by omega
        have hj9 : j = (n.2.2.getD i []).length := by omega
        dsimp only
        rw [hj9, List.drop_length, List.flatMap_nil, List.nil_append] at g2
        rw [hj9, List.take_length] at g3
        rw [h6, h7, h3, g3, take_at (0 : Int) hi9, take_at ([] : List Msg) (show i < n.2.2.length by have := v.w1; omega)]
        exact ⟨h1, h2, g2, rfl, rfl, rfl⟩
  all_goals try
    have hend : ∀ n, checkI n = 0 → nnI n → layI n = b → (acc, ks, bs) = n := fun n hc hn hb => by
      obtain ⟨h1, h2, h3, h4, h5, h6⟩ := hv n hc hn hb
      have := (valI hc).w1
      rw [List.take_of_length_le (by omega)] at h5 h6
      obtain ⟨x, y, z⟩ := n
      dsimp only at h2 h5 h6
      rw [h2, h5, h6]
    have hnI : nnI (acc, ks, bs) := hnn
  · exact Leaf.mk (show IPre (acc, ks, bs) from ⟨by dsimp only; omega, fun p hp => by have := hat p hp; omega, by dsimp only; omega, by dsimp only; omega, by dsimp only; omega⟩)
  · exact Leaf.mk (retGi (u := (inn0, 4)) (v := getI b) (finI_bad hend (show ¬ (putI (acc, ks, bs)).2 = 0 from ‹_›)).symm)
  · exact Leaf.mk (retGi (u := (inn0, 4)) (v := getI b) (finI_not hend (show (putI (acc, ks, bs)).2 = 0 from ‹_›) (fun hc => beq_eq_false_iff_ne.1 (show (strOfBytes b == strOfBytes (putI (acc, ks, bs)).1) = false from ‹_›) hc.symm)).symm)
  · exact Leaf.mk (retGi (u := ((acc, ks, bs), 0)) (v := getI b) (finI_yes hB hnI (show (putI (acc, ks, bs)).2 = 0 from ‹_›) (beq_iff_eq.1 (show (strOfBytes b == strOfBytes (putI (acc, ks, bs)).1) = true from ‹_›)).symm).symm)
end Go.Proofs.Ytjifalccioebnaa

set_option linter.unusedVariables false
set_option linter.unusedSimpArgs false
set_option maxRecDepth 8000
set_option maxHeartbeats 4000000
namespace Go.Proofs.Ytjifalccioebnaa
open Go.Eng
def twoI : Inn := ([[109]], [1, 2], [[], []])
def sTwo : PSpec := ⟨[], [⟨true, [.d InT]⟩], fun _ => True, fun _ => ((twoI, ()), ())⟩
theorem fTwo : FnOk Try.prog 20 := ⟨_, Try.func20, by decide, rfl⟩
theorem pTwo : PSound Try.prog 20 sTwo := by
  refine psound (T := tab) (S := (spOf [])) (keep := k20) (by kernel_rfl) tabOk spNil (by kernel_rfl) Try.func20 (by kernel_rfl) (by decide) fun xs hg hp => ?_
  obtain ⟨⟩ := xs
  show vfun tab _ k20 Try.f20 [] [] _
  refine Ev.out ?_
  repeat' (first | ((with_reducible refine Ev.mk ?_); conv => whnf) | (with_reducible refine And.intro ?_ ?_) | (intro h; first | exact absurd h (by decide +kernel) | skip))
  all_goals first
    | exact Leaf.mk rfl
    | skip
def sAwake15 : PSpec := ⟨[], [⟨false, [.d .bool]⟩], fun _ => True, fun _ => ((true, ()), ())⟩
theorem fAwake15 : FnOk Try.prog 6 := ⟨_, Try.func6, by decide, rfl⟩
theorem pAwake15 : PSound Try.prog 6 sAwake15 := by
  refine psound (T := tab) (S := (spOf [(20, sTwo.spec (lsOf [])), (14, sIAdd.spec (lsOf [])), (8, sITake.spec (lsOf [])), (21, sIPut.spec (lsOf [])), (22, sIGet.spec (lsOf [])), (16, sIRenew.spec (lsOf [])), (18, sIGrow.spec (lsOf [])), (10, sISplit.spec (lsOf [])), (23, sBounds.spec (lsOf [])), (24, sWeigh.spec (lsOf [])), (25, sFullest.spec (lsOf [])), (26, sISize.spec (lsOf [])), (27, sISame.spec (lsOf [])), (28, sRoute.spec (lsOf [])), (29, sICheck.spec (lsOf []))])) (keep := k6) (by kernel_rfl) tabOk (spCons (pOk pTwo fTwo (by decide) lsNil) (spCons (pOk pIAdd fIAdd (by decide) lsNil) (spCons (pOk pITake fITake (by decide) lsNil) (spCons (pOk pIPut fIPut (by decide) lsNil) (spCons (pOk pIGet fIGet (by decide) lsNil) (spCons (pOk pIRenew fIRenew (by decide) lsNil) (spCons (pOk pIGrow fIGrow (by decide) lsNil) (spCons (pOk pISplit fISplit (by decide) lsNil) (spCons (pOk pBounds fBounds (by decide) lsNil) (spCons (pOk pWeigh fWeigh (by decide) lsNil) (spCons (pOk pFullest fFullest (by decide) lsNil) (spCons (pOk pISize fISize (by decide) lsNil) (spCons (pOk pISame fISame (by decide) lsNil) (spCons (pOk pRoute fRoute (by decide) lsNil) (spCons (pOk pICheck fICheck (by decide) lsNil) spNil))))))))))))))) (by kernel_rfl) Try.func6 (by kernel_rfl) (by decide) fun xs hg hp => ?_
  obtain ⟨⟩ := xs
  show vfun tab _ k6 Try.f6 [] [] _
  refine Ev.out ?_
  repeat' (first | ((with_reducible refine Ev.mk ?_); conv => whnf) | (with_reducible refine And.intro ?_ ?_) | (intro h; first | exact absurd h (by decide +kernel) | skip))
  all_goals first
    | exact Leaf.mk trivial
    | exact leafDraw (by kernel_rfl)
    | (refine Leaf.mk ?_; change IPre _; decide +kernel)
    | (refine Leaf.mk ?_; change (_ : Nat) ≤ _; decide +kernel)
    | (refine Leaf.mk ?_; change (_ : Nat) ≤ _ ∧ (_ : Nat) ≤ _; decide +kernel)
    | (refine Leaf.mk ?_; decide +kernel)
    | exact Leaf.mk rfl
    | skip
end Go.Proofs.Ytjifalccioebnaa

set_option linter.unusedVariables false
set_option linter.unusedSimpArgs false
set_option maxRecDepth 8000
set_option maxHeartbeats 4000000
namespace Go.Proofs.Ytjifalccioebnaa
open Go.Eng
def sSame15 : PSpec := ⟨[.d InT, .d InT], [⟨false, [.d .bool]⟩], fun x => List.length x.1.2.1 ≤ 100000 ∧ List.length x.1.2.2 ≤ 100000, fun x => ((sameI x.1 x.2.1, ()), ())⟩
theorem fSame15 : FnOk Try.prog 13 := ⟨_, Try.func13, by decide, rfl⟩
theorem pSame15 : PSound Try.prog 13 sSame15 := by
  refine psound (T := tab) (S := (spOf [(36, sISameR.spec (lsOf []))])) (keep := k13) (by kernel_rfl) tabOk (spCons (pOk pISameR fISameR (by decide) lsNil) spNil) (by kernel_rfl) Try.func13 (by kernel_rfl) (by decide) fun xs hg hp => ?_
  obtain ⟨⟨ps, ks, bs⟩, ⟨ps1, ks1, bs1⟩, ⟨⟩⟩ := xs
  clear hg
  change List (List UInt8) at ps ps1
  change List Int at ks ks1
  change List (List Msg) at bs bs1
  change ks.length ≤ 100000 ∧ bs.length ≤ 100000 at hp
  obtain ⟨hk, hb⟩ := hp
  show vfun tab _ k13 Try.f13 [.agg [.sl .str ps, .sl (.int .i64) ks, .sl (.slice MsgT) bs], .agg [.sl .str ps1, .sl (.int .i64) ks1, .sl (.slice MsgT) bs1]] [] _
  refine Ev.out ?_
  repeat' (first | ((with_reducible refine Ev.mk ?_); conv => whnf) | (with_reducible refine And.intro ?_ ?_) | (intro h))
  all_goals (try simp only [decide_eq_true_eq, decide_eq_false_iff_not, beq_iff_eq, bne_iff_ne, beq_eq_false_iff_ne, bne_eq_false_iff_eq, Int.toNat_natCast, ge_iff_le, gt_iff_lt, Bool.not_eq_true', Bool.not_eq_false', Int.not_lt, Int.not_le, ne_eq] at *)
  all_goals (try dsimp only [Ty.den, Ty.dflt, InT, sISameR, sISame] at *)
  all_goals (try simp only [eq4, ne4, eq3, ne3, eq2, ne2, Prod.eta, List.length_cons, List.length_nil, List.length_append, Nat.zero_add] at *)
  all_goals (try simp (disch := omega) only [wrap64] at *)
  all_goals try first | exact leafDraw (by kernel_rfl) | exact Leaf.mk trivial | (refine Leaf.mk ?_; omega) | (refine Leaf.mk ?_; unfold maxLen; omega)
  all_goals first
    | exact Leaf.mk (show ks.length ≤ 100000 ∧ bs.length ≤ 100000 by omega)
    | exact Leaf.mk rfl
    | skip
theorem sameI_self {a : Inn} {P : Prop} (h : sameI a a = false) : P := absurd (show sameI a a = true from decide_eq_true rfl) (by rw [h]; simp)
def Sh (n : Inn) : Prop := List.length n.2.1 ≤ 100000 ∧ List.length n.2.2 ≤ 100000
theorem sh_pre {n : Inn} (h : IPre n) : Sh n := by
  have := h.k; have := h.b
  exact ⟨by omega, by omega⟩
theorem sh_take {n : Inn} (h : IPre n) (i : Int) : Sh (takeI n i).2 := by
  rw [takeI]
  have := h.k; have := h.b
  split
  · exact ⟨by dsimp only; omega, by dsimp only; rw [List.length_set]; omega⟩
  · exact sh_pre h
theorem sh_split1 {n : Inn} (h : IPre n) : Sh (splitI n).1 := by
  rw [splitI]
  have := h.k; have := h.b
  split
  · exact ⟨by dsimp only; rw [List.length_take]; omega, by dsimp only; rw [List.length_take]; omega⟩
  · exact sh_pre h
theorem sh_split2 {n : Inn} (h : IPre n) : Sh (splitI n).2.1 := by
  rw [splitI]
  have := h.k; have := h.b
  split
  · exact ⟨by dsimp only; rw [List.length_drop]; omega, by dsimp only; rw [List.length_drop]; omega⟩
  · exact ⟨Nat.zero_le _, Nat.zero_le _⟩
theorem sh_add {n : Inn} (h : IPre n) (m : Msg) : Sh (addI n m) := by
  rw [addI]
  have := h.k; have := h.b
  split
  · exact ⟨by dsimp only; omega, by dsimp only; rw [addB_len]; omega⟩
  · exact sh_pre h
theorem sh_renew {n : Inn} (h : IPre n) (i kid : Int) : Sh (renewI n i kid) := by
  rw [renewI]
  have := h.k; have := h.b
  split
  · exact ⟨by dsimp only; rw [List.length_set]; omega, by dsimp only; omega⟩
  · exact sh_pre h
theorem insK_le {α : Type} (k : Nat) (a : α) (l : List α) : (insK k a l).length ≤ l.length + 1 := by
  rw [insK, List.length_append, List.length_append, List.length_take, List.length_drop, List.length_singleton]; omega
theorem sh_grow {n : Inn} (h : IPre n) (i right : Int) (sep : List UInt8) : Sh (growI n i right sep) := by
  rw [growI]
  have := h.k; have := h.b
  split
  · exact ⟨by have := insK_le (i.toNat + 1) right n.2.1; dsimp only; omega, by have := insK_le (i.toNat + 1) [] n.2.2; dsimp only; omega⟩
  · exact sh_pre h
theorem sameM_selfX {a : List Msg} {P : Prop} (h : sameM a a = false) : P := absurd (show sameM a a = true from decide_eq_true rfl) (by rw [h]; simp)
abbrev AtT : Ty := .pair (.int .i64) (.int .i64)
def sInnerChanges : PSpec := lawSpec [InT, MsgT, AtT]
theorem pInnerChanges : PSound Try.prog 3 sInnerChanges := by
  refine psound (T := tab) (S := (spOf [(4, sLightI.spec (lsOf [])), (5, sLightM.spec (lsOf [])), (6, sAwake15.spec (lsOf [])), (7, sOwnL.spec (lsOf [])), (8, sITake.spec (lsOf [])), (9, sTakeR.spec (lsOf [])), (10, sISplit.spec (lsOf [])), (11, sSplitR.spec (lsOf [])), (12, sSameM.spec (lsOf [])), (13, sSame15.spec (lsOf [])), (14, sIAdd.spec (lsOf [])), (15, sAddR.spec (lsOf [])), (16, sIRenew.spec (lsOf [])), (17, sRenewR.spec (lsOf [])), (18, sIGrow.spec (lsOf [])), (19, sGrowR.spec (lsOf []))])) (keep := k3) (by kernel_rfl) tabOk (spCons (pOk pLightI fLightI (by decide) lsNil) (spCons (pOk pLightM fLightM (by decide) lsNil) (spCons (pOk pAwake15 fAwake15 (by decide) lsNil) (spCons (pOk pOwnL fOwnL (by decide) lsNil) (spCons (pOk pITake fITake (by decide) lsNil) (spCons (pOk pTakeR fTakeR (by decide) lsNil) (spCons (pOk pISplit fISplit (by decide) lsNil) (spCons (pOk pSplitR fSplitR (by decide) lsNil) (spCons (pOk pSameM fSameM (by decide) lsNil) (spCons (pOk pSame15 fSame15 (by decide) lsNil) (spCons (pOk pIAdd fIAdd (by decide) lsNil) (spCons (pOk pAddR fAddR (by decide) lsNil) (spCons (pOk pIRenew fIRenew (by decide) lsNil) (spCons (pOk pRenewR fRenewR (by decide) lsNil) (spCons (pOk pIGrow fIGrow (by decide) lsNil) (spCons (pOk pGrowR fGrowR (by decide) lsNil) spNil)))))))))))))))) (by kernel_rfl) Try.func3 (by kernel_rfl) (by decide) fun xs hg hp => ?_
  obtain ⟨⟨ps, ks, bs⟩, ⟨kind, k, txn, ts, gone, val⟩, ⟨i, kid⟩, ⟨⟩⟩ := xs
  clear hp hg
  change List (List UInt8) at ps
  change List Int at ks
  change List (List Msg) at bs
  change Int at kind txn ts i kid
  change List UInt8 at k val
  change Bool at gone
  show vfun tab _ k3 Try.f3 [.agg [.sl .str ps, .sl (.int .i64) ks, .sl (.slice MsgT) bs], .agg [.i .u8 kind, .s k, .i .i64 txn, .i .i64 ts, .b gone, .s val], .agg [.i .i64 i, .i .i64 kid]] [] _
  refine Ev.out ?_
  repeat' (first | ((with_reducible refine Ev.mk ?_); conv => whnf) | (with_reducible refine And.intro ?_ ?_) | (intro h))
  all_goals (try simp only [decide_eq_true_eq, decide_eq_false_iff_not, beq_iff_eq, bne_iff_ne, beq_eq_false_iff_ne, bne_eq_false_iff_eq, Int.toNat_natCast, ge_iff_le, gt_iff_lt, Bool.not_eq_true', Bool.not_eq_false', Int.not_lt, Int.not_le, ne_eq] at *)
  all_goals (try dsimp only [Ty.den, Ty.dflt, InT, sLightI, sLightM, sOwnL, sITake, sTakeR, sISplit, sSplitR, sSameM, sSame15, sIAdd, sAddR, sIRenew, sRenewR, sIGrow, sGrowR, sAwake15] at *)
  all_goals (try simp only [eq4, ne4, eq3, ne3, eq2, ne2, Prod.eta, List.length_cons, List.length_nil, List.length_append, Nat.zero_add] at *)
  all_goals (try simp (disch := omega) only [wrap64] at *)
  all_goals try first | exact leafDraw (by kernel_rfl) | exact Leaf.mk trivial | (refine Leaf.mk ?_; omega) | (refine Leaf.mk ?_; unfold maxLen; omega)
  all_goals first
    | exact Leaf.mk rfl
    | skip
  all_goals
    have hI := (lightI_pre (show lightI (ps, ks, bs) = true by assumption)).1
  all_goals first
    | exact Leaf.mk hI
    | exact Leaf.mk (sh_take hI _)
    | exact Leaf.mk (sh_split1 hI)
    | exact Leaf.mk (sh_split2 hI)
    | exact Leaf.mk (sh_add hI _)
    | exact Leaf.mk (sh_renew hI _ _)
    | exact Leaf.mk (sh_grow hI _ _ _)
    | exact Leaf.mk (sh_pre hI)
    | (exfalso; exact sameI_self (by assumption))
    | (exfalso; exact sameM_selfX (by assumption))
    | (exfalso; exact absurd trivial ‹¬ True›)
    | (exfalso; exact absurd rfl h)
    | skip
end Go.Proofs.Ytjifalccioebnaa
