import Derived.Test.YtoedpnniaikfbaaGreatQ9
import Derived.Test.YtoedpnniaikfbaaGreatQ10
/- Texts, one behind the other. -/
set_option linter.unusedVariables false
set_option linter.unusedSimpArgs false
set_option maxRecDepth 8000
set_option maxHeartbeats 4000000
namespace Go.Proofs.YtoedpnniaikfbaaGreat
open Go.Eng
def sIGet : PSpec := ⟨[.d BT], [⟨true, [.d InT]⟩, ⟨false, [.d (.int .i64)]⟩], fun x => List.length (α := Int) x.1 ≤ 5000, fun x => (((getI x.1).1, ()), ((getI x.1).2, ()), ())⟩
theorem retGi {u v : Inn × Int} (h : u = v) : (some ((u.1, ()), (u.2, ()), ()) : Option ((Inn × Unit) × (Int × Unit) × Unit)) = some ((v.1, ()), (v.2, ()), ()) := by rw [h]
theorem ValI.hd {n : Inn} {b : List Int} (h : ValI n) (hb : layI n = b) : rdSmall b 0 = (((n.2.1.length : Nat) : Int), n.1.flatMap putText ++ kfrom n.2.1 n.2.2, 0) := by
  subst hb
  have := h.k6
  rw [layI_eq h.w1, rdSmall_put (Int.natCast_nonneg _) (by omega)]
theorem kfrom_at {ks : List Int} {bs : List (List Msg)} {i : Nat} (h : bs.length = ks.length) (hi : i < ks.length) : kfrom (ks.drop i) (bs.drop i) = kb (ks.getD i 0) (bs.getD i []) ++ kfrom (ks.drop (i + 1)) (bs.drop (i + 1)) := by
  rw [drop_at 0 hi, drop_at [] (show i < bs.length by omega), kfrom]
theorem ValI.kid {n : Inn} {i : Nat} (h : ValI n) (hi : i < n.2.1.length) : rdSmall (kfrom (n.2.1.drop i) (n.2.2.drop i)) 0 = (n.2.1.getD i 0, putSmall ((n.2.2.getD i []).length : Nat) ++ ((n.2.2.getD i []).flatMap pm ++ kfrom (n.2.1.drop (i + 1)) (n.2.2.drop (i + 1))), 0) ∧
    rdSmall (putSmall ((n.2.2.getD i []).length : Nat) ++ ((n.2.2.getD i []).flatMap pm ++ kfrom (n.2.1.drop (i + 1)) (n.2.2.drop (i + 1)))) 0 = ((((n.2.2.getD i []).length : Nat) : Int), (n.2.2.getD i []).flatMap pm ++ kfrom (n.2.1.drop (i + 1)) (n.2.2.drop (i + 1)), 0) := by
  have h1 := h.ks _ (getD_mem (xs := n.2.1) 0 hi)
  have h2 := h.bl (getD_mem (xs := n.2.2) [] (show i < n.2.2.length by have := h.w1; omega))
  rw [kfrom_at h.w1 hi, kb, max0_ok h1.1, List.append_assoc, List.append_assoc]
  exact ⟨rdSmall_put h1.1 h1.2 _, rdSmall_put (Int.natCast_nonneg _) (by omega) _⟩
theorem ValI.msg {n : Inn} {i j : Nat} (h : ValI n) (h0 : nnI n) (hi : i < n.2.2.length) (hj : j < (n.2.2.getD i []).length) (r : List Int) : getM (((n.2.2.getD i []).drop j).flatMap pm ++ r) = ((n.2.2.getD i []).getD j msg0, (((putM ((n.2.2.getD i []).getD j msg0)).length : Nat) : Int), 0) ∧
    (((n.2.2.getD i []).drop j).flatMap pm ++ r).drop (putM ((n.2.2.getD i []).getD j msg0)).length = ((n.2.2.getD i []).drop (j + 1)).flatMap pm ++ r := by
  have hb := getD_mem (xs := n.2.2) [] hi
  have hm := getD_mem (xs := n.2.2.getD i []) msg0 hj
  have h1 := h.ms _ hb _ hm
  rw [drop_at msg0 hj, List.flatMap_cons, List.append_assoc, pm_ok h1]
  exact ⟨getM_put (h0 _ hb _ hm) h1 (List.prefix_append _ _), List.drop_left' rfl⟩
theorem ValI.piv {n : Inn} {i : Nat} (h : ValI n) (hi : i < n.1.length) (r : List Int) : rdText ((n.1.drop i).flatMap putText ++ r) 0 16 = (n.1.getD i [], (n.1.drop (i + 1)).flatMap putText ++ r, 0) := by
  have h9 := h.ps _ (getD_mem (xs := n.1) [] hi)
  rw [drop_at [] hi, List.flatMap_cons, List.append_assoc, rdText_put (by omega)]
def min6 (x : Int) : Int := if 6 < x then 6 else x
theorem min6_of (x : Int) {inst : Decidable (6 < x)} : @ite Int (6 < x) inst 6 x = min6 x := by unfold min6; split <;> first | rfl | (split <;> first | rfl | omega)
theorem fIGet : FnOk Tryz.prog 9 := ⟨_, Tryz.func9, by decide, rfl⟩
theorem pIGet : PSound Tryz.prog 9 sIGet := by
  refine psound (T := tab) (S := (spOf [(30, sNew.spec (lsOf [])), (31, sSmall.spec), (32, sText.spec), (33, sLeft.spec), (34, sMGet.spec (lsOf [])), (6, sIPut.spec (lsOf [])), (35, sBEqual.spec (lsOf []))])) (keep := k9) (by kernel_rfl) tabOk (spCons (.inl ⟨nOk lsNil pNew, fNew⟩) (spCons (.inl ⟨pSmall, fSmall⟩) (spCons (.inl ⟨pText, fText⟩) (spCons (.inl ⟨pLeft, fLeft⟩) (spCons (pOk pMGet fMGet (by decide) lsNil) (spCons (pOk pIPut fIPut (by decide) lsNil) (spCons (pOk pBEqual fBEqual (by decide) lsNil) spNil))))))) (by kernel_rfl) Tryz.func9 (by kernel_rfl) (by decide) fun xs hg hp => ?_
  obtain ⟨b, ⟨⟩⟩ := xs
  obtain ⟨⟨-, hx⟩, -⟩ := hg
  change List Int at b
  change b.length ≤ 5000 at hp
  have hB : isB b := isB_good hx
  change ∀ x ∈ b, Eng.Good (.int .u8) x at hx
  have hb1 := rdSmall_suf b 0
  have hl1 := suf_len hb1
  show vfun tab _ k9 Tryz.f9 [.sl (.int .u8) b] [] _
  refine Ev.out ?_
  repeat' (first | ((with_reducible refine Ev.mk ?_); conv => whnf) | (with_reducible refine And.intro ?_ ?_) | (intro h))
  all_goals (try simp only [decide_eq_true_eq, decide_eq_false_iff_not, beq_iff_eq, bne_iff_ne, beq_eq_false_iff_ne, bne_eq_false_iff_eq, Int.toNat_natCast, ge_iff_le, gt_iff_lt, Bool.not_eq_true', Bool.not_eq_false', Int.not_lt, Int.not_le, ne_eq] at *)
  all_goals (try dsimp only [Ty.den, Ty.dflt, InT, sNew, sSmall] at *)
  all_goals (try simp only [eq4, ne4, eq3, ne3, eq2, ne2, Prod.eta, List.length_cons, List.length_nil, List.length_append, Nat.zero_add] at *)
  all_goals (try simp (disch := omega) only [wrap64] at *)
  all_goals try first | exact leafDraw (by kernel_rfl) | exact Leaf.mk trivial | (refine Leaf.mk ?_; omega) | (refine Leaf.mk ?_; unfold maxLen; omega)
  erw [min6_of]
  generalize hN : (rdSmall b 0).1 = N
  generalize hb0 : (rdSmall b 0).2.1 = b0 at *
  generalize he0 : (rdSmall b 0).2.2 = e0
  have h0 : ∀ n, checkI n = 0 → nnI n → layI n = b → min6 N = n.2.1.length ∧ b0 = n.1.flatMap putText ++ kfrom n.2.1 n.2.2 ∧ e0 = 0 := fun n hc hn hb => by
    have v := valI hc
    have h1 := v.hd hb
    have h2 := v.k6
    rw [h1] at hN hb0 he0
    refine ⟨?_, hb0.symm, he0.symm⟩
    rw [← hN, min6, if_neg (by dsimp only; omega)]
  have hM : min6 N ≤ 6 := by unfold min6; split <;> omega
  generalize min6 N = M at *
  refine LoopVC.weak [(.cell 2 0, .nil 9 .str)] (fun a : Nat × List Int × Int × List S8 => [(7, .i .i64 a.1)]) (fun a => [(1, .box [.sl (.int .u8) a.2.1, .i .i64 a.2.2.1]), (3, .arr 9 .str a.2.2.2)]) (fun a => 1 ≤ a.1 ∧ a.1 ≤ 7 ∧ a.2.1 <:+ b ∧ a.2.2.2.length + 1 = a.1 ∧ (∀ p ∈ a.2.2.2, p.length ≤ 16) ∧ ∀ n, checkI n = 0 → nnI n → layI n = b → M = n.2.1.length ∧ a.1 ≤ n.2.1.length ∧ a.2.1 = (n.1.drop (a.1 - 1)).flatMap putText ++ kfrom n.2.1 n.2.2 ∧ a.2.2.1 = 0 ∧ a.2.2.2 = n.1.take (a.1 - 1)) (fun a => 7 - a.1) (1, b0, e0, []) (Ev.mk ?_)
  (conv => whnf)
  refine ⟨Leaf.mk ?_, Leaf.mk ?_, ?_⟩
  · rfl
  · refine ⟨by dsimp only; omega, by dsimp only; omega, hb1, rfl, fun p hp => by simp at hp, fun n hc hn hb => ?_⟩
    have v := valI hc
    have h2 := v.k2
    obtain ⟨h1, h3, h4⟩ := h0 n hc hn hb
    exact ⟨h1, by dsimp only; omega, h3, h4, rfl⟩
  intro ⟨i, rb, re, acc⟩ ⟨hi1, hi7, hrb, hacc, hat, hv⟩
  dsimp only at hi1 hi7 hrb hacc hat hv ⊢
  have hrl := suf_len hrb
  repeat' (first | ((with_reducible refine Ev.mk ?_); conv => whnf) | (with_reducible refine And.intro ?_ ?_) | (intro h))
  all_goals (try simp only [decide_eq_true_eq, decide_eq_false_iff_not, beq_iff_eq, bne_iff_ne, beq_eq_false_iff_ne, bne_eq_false_iff_eq, Int.toNat_natCast, ge_iff_le, gt_iff_lt, Bool.not_eq_true', Bool.not_eq_false', Int.not_lt, Int.not_le, ne_eq] at *)
  all_goals (try dsimp only [Ty.den, Ty.dflt, InT, sNew, sSmall, sText] at *)
  all_goals (try simp only [eq4, ne4, eq3, ne3, eq2, ne2, Prod.eta, List.length_cons, List.length_nil, List.length_append, Nat.zero_add] at *)
  all_goals (try simp (disch := omega) only [wrap64] at *)
  all_goals try first | exact leafDraw (by kernel_rfl) | exact Leaf.mk trivial | (refine Leaf.mk ?_; omega) | (refine Leaf.mk ?_; unfold maxLen; omega)
  · have hts := rdText_suf rb re 16
    have htm := rdText_max9 rb re (m := 16) (by decide)
    refine Leaf.mk (Exists.intro (i + 1, (rdText rb re 16).2.1, (rdText rb re 16).2.2, acc ++ [(rdText rb re 16).1]) ⟨rfl, ⟨by dsimp only; omega, by dsimp only; omega, hts.trans hrb, by dsimp only; rw [List.length_append, List.length_singleton]; omega, fun p hp => ?_, fun n hc hn hb => ?_⟩, by dsimp only; omega⟩)
    · rcases List.mem_append.1 hp with hp | hp
      · exact hat p hp
      · rw [List.mem_singleton] at hp; subst hp; omega
    · obtain ⟨h1, h2, h3, h4, h5⟩ := hv n hc hn hb
      have v := valI hc
      have hw2 := v.w2
      have h6 := v.piv (i := i - 1) (by omega) (kfrom n.2.1 n.2.2)
      dsimp only
      rw [h3, h4, h6, h5, show i + 1 - 1 = i - 1 + 1 by omega]
      exact ⟨h1, by omega, rfl, rfl, (take_at [] (show i - 1 < n.1.length by omega)).symm⟩
  clear hrl
  have hv1 : ∀ n, checkI n = 0 → nnI n → layI n = b → M = n.2.1.length ∧ rb = kfrom n.2.1 n.2.2 ∧ re = 0 ∧ acc = n.1 := fun n hc hn hb => by
    obtain ⟨h1, h2, h3, h4, h5⟩ := hv n hc hn hb
    have hw2 := (valI hc).w2
    rw [drop_end (by omega)] at h3
    exact ⟨h1, h3, h4, by rw [h5, List.take_of_length_le (by omega)]⟩
  clear hv
  refine LoopVC.weak [(.cell 2 1, .nil 3 (.int .i64)), (.cell 2 2, .nil 46 (.slice MsgT))] (fun a : Nat × List Int × Int × List Int × List (List Msg) => [(35, .i .i64 a.1)]) (fun a => [(1, .box [.sl (.int .u8) a.2.1, .i .i64 a.2.2.1]), (4, .arr 3 (.int .i64) a.2.2.2.1), (5, .arr 46 (.slice MsgT) a.2.2.2.2)]) (fun a => (a.1 : Int) ≤ max M 0 ∧ a.2.1 <:+ b ∧ a.2.2.2.1.length = a.1 ∧ a.2.2.2.2.length = a.1 ∧ a.2.2.2.2.flatten.length + a.2.1.length ≤ b.length ∧ (∀ l ∈ a.2.2.2.2, ∀ m ∈ l, 0 ≤ m.1) ∧ ∀ n, checkI n = 0 → nnI n → layI n = b → M = n.2.1.length ∧ acc = n.1 ∧ a.2.1 = kfrom (n.2.1.drop a.1) (n.2.2.drop a.1) ∧ a.2.2.1 = 0 ∧ a.2.2.2.1 = n.2.1.take a.1 ∧ a.2.2.2.2 = n.2.2.take a.1) (fun a => 7 - a.1) (0, rb, re, [], []) (Ev.mk ?_)
  (conv => whnf)
  refine ⟨Leaf.mk ?_, Leaf.mk ?_, ?_⟩
  · rfl
  · have := suf_len hrb
    refine ⟨by dsimp only; omega, hrb, rfl, rfl, by dsimp only; simp; exact this, fun l hl => by simp at hl, fun n hc hn hb => ?_⟩
    obtain ⟨h1, h3, h4, h5⟩ := hv1 n hc hn hb
    exact ⟨h1, h5, h3, h4, rfl, rfl⟩
  clear hv1 hrb
  intro ⟨i, rb, re, ks, bs⟩ ⟨hi, hrb, hks, hbs, hfl, hnn, hv⟩
  dsimp only at hi hrb hks hbs hfl hnn hv ⊢
  have hrl := suf_len hrb
  have hs1 := rdSmall_suf rb re
  have hs2 := rdSmall_suf (rdSmall rb re).2.1 (rdSmall rb re).2.2
  have hs1l := suf_len hs1
  have hs2l := suf_len hs2
  repeat' (first | ((with_reducible refine Ev.mk ?_); conv => whnf) | (with_reducible refine And.intro ?_ ?_) | (intro h))
  all_goals (try simp only [decide_eq_true_eq, decide_eq_false_iff_not, beq_iff_eq, bne_iff_ne, beq_eq_false_iff_ne, bne_eq_false_iff_eq, Int.toNat_natCast, ge_iff_le, gt_iff_lt, Bool.not_eq_true', Bool.not_eq_false', Int.not_lt, Int.not_le, ne_eq] at *)
  all_goals (try dsimp only [Ty.den, Ty.dflt, InT, sNew, sSmall, sText, sLeft] at *)
  all_goals (try simp only [eq4, ne4, eq3, ne3, eq2, ne2, Prod.eta, List.length_cons, List.length_nil, List.length_append, Nat.zero_add] at *)
  all_goals (try simp (disch := omega) only [wrap64] at *)
  all_goals try first | exact leafDraw (by kernel_rfl) | exact Leaf.mk trivial | (refine Leaf.mk ?_; omega) | (refine Leaf.mk ?_; unfold maxLen; omega)
  · have hRB := hs2.trans (hs1.trans hrb)
    have hcut := suf_cut hRB
    simp only [hcut]
    clear hcut
    have hk : ∀ n, checkI n = 0 → nnI n → layI n = b → M = n.2.1.length ∧ acc = n.1 ∧ (rdSmall rb re).1 = n.2.1.getD i 0 ∧ (rdSmall (rdSmall rb re).2.1 (rdSmall rb re).2.2).1 = (((n.2.2.getD i []).length : Nat) : Int) ∧ (rdSmall (rdSmall rb re).2.1 (rdSmall rb re).2.2).2.1 = (n.2.2.getD i []).flatMap pm ++ kfrom (n.2.1.drop (i + 1)) (n.2.2.drop (i + 1)) ∧ ks = n.2.1.take i ∧ bs = n.2.2.take i := fun n hc hn hb => by
      obtain ⟨h1, h2, h3, h4, h5, h6⟩ := hv n hc hn hb
      have v := valI hc
      obtain ⟨g1, g2⟩ := v.kid (i := i) (by omega)
      rw [h3, h4, g1]
      dsimp only
      rw [g2]
      exact ⟨h1, h2, rfl, rfl, rfl, h5, h6⟩
    generalize hk1 : (rdSmall rb re).1 = k1 at *
    have hR2 : ((rdSmall (rdSmall rb re).2.1 (rdSmall rb re).2.2).2.1).length ≤ rb.length := by omega
    generalize (rdSmall (rdSmall rb re).2.1 (rdSmall rb re).2.2).1 = k2 at *
    generalize (rdSmall (rdSmall rb re).2.1 (rdSmall rb re).2.2).2.1 = R2 at *
    clear hv hs1 hs2 hs1l hs2l
    refine LoopVC.weak [(.slot 8, .nil 48 MsgT)] (fun a : Nat × List Int × List Msg => [(11, .i .i64 a.1), (10, .sl (.int .u8) a.2.1)]) (fun a => [(2, .arr 48 MsgT a.2.2)]) (fun a => a.2.1 <:+ b ∧ a.2.2.length = a.1 ∧ a.1 + a.2.1.length ≤ R2.length ∧ (∀ m ∈ a.2.2, 0 ≤ m.1) ∧ ∀ n, checkI n = 0 → nnI n → layI n = b → a.1 ≤ (n.2.2.getD i []).length ∧ a.2.1 = ((n.2.2.getD i []).drop a.1).flatMap pm ++ kfrom (n.2.1.drop (i + 1)) (n.2.2.drop (i + 1)) ∧ a.2.2 = (n.2.2.getD i []).take a.1) (fun a => a.2.1.length) (0, R2, []) (Ev.mk ?_)
    (conv => whnf)
    refine ⟨Leaf.mk ?_, Leaf.mk ?_, ?_⟩
    · rfl
    · refine ⟨hRB, rfl, by dsimp only; omega, fun m hm => by simp at hm, fun n hc hn hb => ?_⟩
      obtain ⟨h1, h2, h3, h4, h5, h6⟩ := hk n hc hn hb
      exact ⟨Nat.zero_le _, h5, rfl⟩
    intro ⟨j, rest, buf⟩ ⟨hrs, hbl, hjl, hnb, hw⟩
    dsimp only at hrs hbl hjl hnb hw ⊢
    have hrsl := suf_len hrs
    repeat' (first | ((with_reducible refine Ev.mk ?_); conv => whnf) | (with_reducible refine And.intro ?_ ?_) | (intro h))
    all_goals (try simp only [decide_eq_true_eq, decide_eq_false_iff_not, beq_iff_eq, bne_iff_ne, beq_eq_false_iff_ne, bne_eq_false_iff_eq, Int.toNat_natCast, ge_iff_le, gt_iff_lt, Bool.not_eq_true', Bool.not_eq_false', Int.not_lt, Int.not_le, ne_eq] at *)
    all_goals (try dsimp only [Ty.den, Ty.dflt, InT, sNew, sMGet] at *)
    all_goals (try simp only [eq4, ne4, eq3, ne3, eq2, ne2, Prod.eta, List.length_cons, List.length_nil, List.length_append, Nat.zero_add] at *)
    all_goals (try simp (disch := omega) only [wrap64] at *)
    all_goals try first | exact leafDraw (by kernel_rfl) | exact Leaf.mk trivial | (refine Leaf.mk ?_; omega) | (refine Leaf.mk ?_; unfold maxLen; omega)
    all_goals try
      have hst := getM_step (b := rest) ‹(getM rest).2.2 = 0›
    · refine Leaf.mk (retGi (u := (inn0, 4)) (v := getI b) (getI_not fun n hc hn hb => ?_).symm)
      obtain ⟨h1, h2, h3, h4, h5, h6, h7⟩ := hk n hc hn hb
      obtain ⟨g1, g2, g3⟩ := hw n hc hn hb
      have v := valI hc
      have h9 := (v.msg hn (i := i) (j := j) (by have := v.w1; omega) (by omega) (kfrom (n.2.1.drop (i + 1)) (n.2.2.drop (i + 1)))).1
      rw [← g2] at h9
      exact absurd (by rw [h9]) ‹¬ (getM rest).2.2 = 0›
    · exact Leaf.mk (by omega)
    · exact Leaf.mk (by omega)
    · refine Leaf.mk (Exists.intro (j + 1, rest.drop (getM rest).2.1.toNat, buf ++ [(getM rest).1]) ⟨?_, ⟨(List.drop_suffix _ _).trans hrs, by dsimp only; rw [List.length_append, List.length_singleton]; omega, by dsimp only; rw [List.length_drop]; omega, fun m hm => ?_, fun n hc hn hb => ?_⟩, by dsimp only; rw [List.length_drop]; omega⟩)
      · rw [List.take_length]; rfl
      · rcases List.mem_append.1 hm with hm | hm
        · exact hnb m hm
        · rw [List.mem_singleton] at hm; subst hm; exact getM_nn (fun x h => hB x (hrs.subset h))
      · obtain ⟨h1, h2, h3, h4, h5, h6, h7⟩ := hk n hc hn hb
        obtain ⟨g1, g2, g3⟩ := hw n hc hn hb
        have v := valI hc
        have hjl : j < (n.2.2.getD i []).length := by omega
        obtain ⟨q1, q2⟩ := v.msg hn (i := i) (j := j) (by have := v.w1; omega) hjl (kfrom (n.2.1.drop (i + 1)) (n.2.2.drop (i + 1)))
        rw [← g2] at q1 q2
        dsimp only
        rw [q1]
        dsimp only
        rw [Int.toNat_natCast, q2, g3]
        exact ⟨by omega, rfl, (take_at msg0 hjl).symm⟩
    · refine Leaf.mk (Exists.intro (i + 1, rest, 0, ks ++ [k1], bs ++ [buf]) ⟨rfl, ⟨by dsimp only; omega, hrs, by dsimp only; rw [List.length_append, List.length_singleton]; omega, by dsimp only; rw [List.length_append, List.length_singleton]; omega, ?_, fun l hl => ?_, fun n hc hn hb => ?_⟩, by dsimp only; omega⟩)
      · dsimp only
        rw [List.flatten_append, List.length_append, List.flatten_cons, List.flatten_nil, List.append_nil]; omega
      · rcases List.mem_append.1 hl with hl | hl
        · exact hnn l hl
        · rw [List.mem_singleton] at hl; subst hl; exact hnb
      · obtain ⟨h1, h2, h3, h4, h5, h6, h7⟩ := hk n hc hn hb
        obtain ⟨g1, g2, g3⟩ := hw n hc hn hb
        have v := valI hc
        have hi9 : i < n.2.1.length := by omega
        have hj9 : j = (n.2.2.getD i []).length := by omega
        dsimp only
        rw [hj9, List.drop_length, List.flatMap_nil, List.nil_append] at g2
        rw [hj9, List.take_length] at g3
        rw [h6, h7, h3, g3, take_at (0 : Int) hi9, take_at ([] : List Msg) (show i < n.2.2.length by have := v.w1; omega)]
        exact ⟨h1, h2, g2, rfl, rfl, rfl⟩
  all_goals try
    have hend : ∀ n, checkI n = 0 → nnI n → layI n = b → (acc, ks, bs) = n := fun n hc hn hb => by
      obtain ⟨h1, h2, h3, h4, h5, h6⟩ := hv n hc hn hb
      have := (valI hc).w1
      rw [List.take_of_length_le (by omega)] at h5 h6
      obtain ⟨x, y, z⟩ := n
      dsimp only at h2 h5 h6
      rw [h2, h5, h6]
    have hnI : nnI (acc, ks, bs) := hnn
  · exact Leaf.mk (show IPre (acc, ks, bs) from ⟨by dsimp only; omega, fun p hp => by have := hat p hp; omega, by dsimp only; omega, by dsimp only; omega, by dsimp only; omega⟩)
  · exact Leaf.mk (retGi (u := (inn0, 4)) (v := getI b) (finI_bad hend (show ¬ (putI (acc, ks, bs)).2 = 0 from ‹_›)).symm)
  · exact Leaf.mk (retGi (u := (inn0, 4)) (v := getI b) (finI_not hend (show (putI (acc, ks, bs)).2 = 0 from ‹_›) (fun hc => beq_eq_false_iff_ne.1 (show (strOfBytes b == strOfBytes (putI (acc, ks, bs)).1) = false from ‹_›) hc.symm)).symm)
  · exact Leaf.mk (retGi (u := ((acc, ks, bs), 0)) (v := getI b) (finI_yes hB hnI (show (putI (acc, ks, bs)).2 = 0 from ‹_›) (beq_iff_eq.1 (show (strOfBytes b == strOfBytes (putI (acc, ks, bs)).1) = true from ‹_›)).symm).symm)
end Go.Proofs.YtoedpnniaikfbaaGreat

set_option linter.unusedVariables false
set_option linter.unusedSimpArgs false
set_option maxRecDepth 8000
set_option maxHeartbeats 4000000
namespace Go.Proofs.YtoedpnniaikfbaaGreat
open Go.Eng
def twoI : Inn := ([[109]], [1, 2], [[], []])
def sTwo : PSpec := ⟨[], [⟨true, [.d InT]⟩], fun _ => True, fun _ => ((twoI, ()), ())⟩
theorem fTwo : FnOk Tryz.prog 16 := ⟨_, Tryz.func16, by decide, rfl⟩
theorem pTwo : PSound Tryz.prog 16 sTwo := by
  refine psound (T := tab) (S := (spOf [])) (keep := k16) (by kernel_rfl) tabOk spNil (by kernel_rfl) Tryz.func16 (by kernel_rfl) (by decide) fun xs hg hp => ?_
  obtain ⟨⟩ := xs
  show vfun tab _ k16 Tryz.f16 [] [] _
  refine Ev.out ?_
  repeat' (first | ((with_reducible refine Ev.mk ?_); conv => whnf) | (with_reducible refine And.intro ?_ ?_) | (intro h; first | exact absurd h (by decide +kernel) | skip))
  all_goals first
    | exact Leaf.mk rfl
    | skip
def sAwake15 : PSpec := ⟨[], [⟨false, [.d .bool]⟩], fun _ => True, fun _ => ((true, ()), ())⟩
theorem fAwake15 : FnOk Tryz.prog 5 := ⟨_, Tryz.func5, by decide, rfl⟩
theorem pAwake15 : PSound Tryz.prog 5 sAwake15 := by
  refine psound (T := tab) (S := (spOf [(16, sTwo.spec (lsOf [])), (15, sIAdd.spec (lsOf [])), (17, sITake.spec (lsOf [])), (6, sIPut.spec (lsOf [])), (9, sIGet.spec (lsOf [])), (19, sIRenew.spec (lsOf [])), (18, sIGrow.spec (lsOf [])), (20, sISplit.spec (lsOf [])), (21, sBounds.spec (lsOf [])), (22, sWeigh.spec (lsOf [])), (23, sFullest.spec (lsOf [])), (24, sISize.spec (lsOf [])), (12, sISame.spec (lsOf [])), (25, sRoute.spec (lsOf [])), (26, sICheck.spec (lsOf []))])) (keep := k5) (by kernel_rfl) tabOk (spCons (pOk pTwo fTwo (by decide) lsNil) (spCons (pOk pIAdd fIAdd (by decide) lsNil) (spCons (pOk pITake fITake (by decide) lsNil) (spCons (pOk pIPut fIPut (by decide) lsNil) (spCons (pOk pIGet fIGet (by decide) lsNil) (spCons (pOk pIRenew fIRenew (by decide) lsNil) (spCons (pOk pIGrow fIGrow (by decide) lsNil) (spCons (pOk pISplit fISplit (by decide) lsNil) (spCons (pOk pBounds fBounds (by decide) lsNil) (spCons (pOk pWeigh fWeigh (by decide) lsNil) (spCons (pOk pFullest fFullest (by decide) lsNil) (spCons (pOk pISize fISize (by decide) lsNil) (spCons (pOk pISame fISame (by decide) lsNil) (spCons (pOk pRoute fRoute (by decide) lsNil) (spCons (pOk pICheck fICheck (by decide) lsNil) spNil))))))))))))))) (by kernel_rfl) Tryz.func5 (by kernel_rfl) (by decide) fun xs hg hp => ?_
  obtain ⟨⟩ := xs
  show vfun tab _ k5 Tryz.f5 [] [] _
  refine Ev.out ?_
  repeat' (first | ((with_reducible refine Ev.mk ?_); conv => whnf) | (with_reducible refine And.intro ?_ ?_) | (intro h; first | exact absurd h (by decide +kernel) | skip))
  all_goals first
    | exact Leaf.mk trivial
    | exact leafDraw (by kernel_rfl)
    | (refine Leaf.mk ?_; change IPre _; decide +kernel)
    | (refine Leaf.mk ?_; change (_ : Nat) ≤ _; decide +kernel)
    | (refine Leaf.mk ?_; change (_ : Nat) ≤ _ ∧ (_ : Nat) ≤ _; decide +kernel)
    | (refine Leaf.mk ?_; decide +kernel)
    | exact Leaf.mk rfl
    | skip
end Go.Proofs.YtoedpnniaikfbaaGreat

set_option linter.unusedVariables false
set_option linter.unusedSimpArgs false
set_option maxRecDepth 8000
set_option maxHeartbeats 4000000
namespace Go.Proofs.YtoedpnniaikfbaaGreat
open Go.Eng
def sIGetR : PSpec := sIGet
theorem fIGetR : FnOk Tryz.prog 10 := ⟨_, Tryz.func10, by decide, rfl⟩
theorem pIGetR : PSound Tryz.prog 10 sIGetR := by
  refine psound (T := tab) (S := (spOf [(36, sRSmall.spec (lsOf [])), (37, sRText.spec (lsOf [])), (38, sMGetR.spec (lsOf [])), (8, sIPutR.spec (lsOf []))])) (keep := k10) (by kernel_rfl) tabOk (spCons (pOk pRSmall fRSmall (by decide) lsNil) (spCons (pOk pRText fRText (by decide) lsNil) (spCons (pOk pMGetR fMGetR (by decide) lsNil) (spCons (pOk pIPutR fIPutR (by decide) lsNil) spNil)))) (by kernel_rfl) Tryz.func10 (by kernel_rfl) (by decide) fun xs hg hp => ?_
  obtain ⟨b, ⟨⟩⟩ := xs
  obtain ⟨⟨-, hx⟩, -⟩ := hg
  change List Int at b
  change b.length ≤ 5000 at hp
  have hB : isB b := isB_good hx
  change ∀ x ∈ b, Eng.Good (.int .u8) x at hx
  have hb1 := rdSmall_suf b 0
  have hl1 := suf_len hb1
  show vfun tab _ k10 Tryz.f10 [.sl (.int .u8) b] [] _
  refine Ev.out ?_
  repeat' (first | ((with_reducible refine Ev.mk ?_); conv => whnf) | (with_reducible refine And.intro ?_ ?_) | (intro h))
  all_goals (try simp only [decide_eq_true_eq, decide_eq_false_iff_not, beq_iff_eq, bne_iff_ne, beq_eq_false_iff_ne, bne_eq_false_iff_eq, Int.toNat_natCast, ge_iff_le, gt_iff_lt, Bool.not_eq_true', Bool.not_eq_false', Int.not_lt, Int.not_le, ne_eq] at *)
  all_goals (try dsimp only [Ty.den, Ty.dflt, InT, sRSmall] at *)
  all_goals (try simp only [eq4, ne4, eq3, ne3, eq2, ne2, Prod.eta, List.length_cons, List.length_nil, List.length_append, Nat.zero_add] at *)
  all_goals (try simp (disch := omega) only [wrap64] at *)
  all_goals try first | exact leafDraw (by kernel_rfl) | exact Leaf.mk trivial | (refine Leaf.mk ?_; omega) | (refine Leaf.mk ?_; unfold maxLen; omega)
  generalize hN : (rdSmall b 0).1 = M
  generalize hb0 : (rdSmall b 0).2.1 = b0 at *
  generalize he0 : (rdSmall b 0).2.2 = e0
  have h0 : ∀ n, checkI n = 0 → nnI n → layI n = b → M = n.2.1.length ∧ b0 = n.1.flatMap putText ++ kfrom n.2.1 n.2.2 ∧ e0 = 0 := fun n hc hn hb => by
    have v := valI hc
    have h1 := v.hd hb
    rw [h1] at hN hb0 he0
    exact ⟨hN.symm, hb0.symm, he0.symm⟩
  clear hN he0
  refine LoopVC.weak [(.cell 1 0, .nil 9 .str)] (fun a : Nat × List Int × Int × List S8 => [(10, .i .i64 a.1)]) (fun a => [(2, .box [.sl (.int .u8) a.2.1, .i .i64 a.2.2.1]), (3, .arr 9 .str a.2.2.2)]) (fun a => 1 ≤ a.1 ∧ a.1 ≤ 6 ∧ a.2.1 <:+ b ∧ a.2.2.2.length + 1 = a.1 ∧ (∀ p ∈ a.2.2.2, p.length ≤ 16) ∧ ∀ n, checkI n = 0 → nnI n → layI n = b → M = n.2.1.length ∧ a.1 ≤ n.2.1.length ∧ a.2.1 = (n.1.drop (a.1 - 1)).flatMap putText ++ kfrom n.2.1 n.2.2 ∧ a.2.2.1 = 0 ∧ a.2.2.2 = n.1.take (a.1 - 1)) (fun a => 7 - a.1) (1, b0, e0, []) (Ev.mk ?_)
  (conv => whnf)
  refine ⟨Leaf.mk ?_, Leaf.mk ?_, ?_⟩
  · rfl
  · refine ⟨by dsimp only; omega, by dsimp only; omega, hb1, rfl, fun p hp => by simp at hp, fun n hc hn hb => ?_⟩
    have v := valI hc
    have h2 := v.k2
    obtain ⟨h1, h3, h4⟩ := h0 n hc hn hb
    exact ⟨h1, by dsimp only; omega, h3, h4, rfl⟩
  clear h0 hb0 hl1
  intro ⟨i, rb, re, acc⟩ ⟨hi1, hi7, hrb, hacc, hat, hv⟩
  dsimp only at hi1 hi7 hrb hacc hat hv ⊢
  have hrl := suf_len hrb
  repeat' (first | ((with_reducible refine Ev.mk ?_); conv => whnf) | (with_reducible refine And.intro ?_ ?_) | (intro h))
  all_goals (try simp only [decide_eq_true_eq, decide_eq_false_iff_not, beq_iff_eq, bne_iff_ne, beq_eq_false_iff_ne, bne_eq_false_iff_eq, Int.toNat_natCast, ge_iff_le, gt_iff_lt, Bool.not_eq_true', Bool.not_eq_false', Int.not_lt, Int.not_le, ne_eq] at *)
  all_goals (try dsimp only [Ty.den, Ty.dflt, InT, sRText] at *)
  all_goals (try simp only [eq4, ne4, eq3, ne3, eq2, ne2, Prod.eta, List.length_cons, List.length_nil, List.length_append, Nat.zero_add] at *)
  all_goals (try simp (disch := omega) only [wrap64] at *)
  all_goals try first | exact leafDraw (by kernel_rfl) | exact Leaf.mk trivial | (refine Leaf.mk ?_; omega) | (refine Leaf.mk ?_; unfold maxLen; omega)
  · have hts := rdText_suf rb re 16
    have htm := rdText_max9 rb re (m := 16) (by decide)
    refine Leaf.mk (Exists.intro (i + 1, (rdText rb re 16).2.1, (rdText rb re 16).2.2, acc ++ [(rdText rb re 16).1]) ⟨rfl, ⟨by dsimp only; omega, by dsimp only; omega, hts.trans hrb, by dsimp only; rw [List.length_append, List.length_singleton]; omega, fun p hp => ?_, fun n hc hn hb => ?_⟩, by dsimp only; omega⟩)
    · rcases List.mem_append.1 hp with hp | hp
      · exact hat p hp
      · rw [List.mem_singleton] at hp; subst hp; omega
    · obtain ⟨h1, h2, h3, h4, h5⟩ := hv n hc hn hb
      have v := valI hc
      have hw2 := v.w2
      have h6 := v.piv (i := i - 1) (by omega) (kfrom n.2.1 n.2.2)
      dsimp only
      rw [h3, h4, h6, h5, show i + 1 - 1 = i - 1 + 1 by omega]
      exact ⟨h1, by omega, rfl, rfl, (take_at [] (show i - 1 < n.1.length by omega)).symm⟩
  all_goals
    have hx : M ≤ (i : Int) ∨ 6 ≤ (i : Int) ∨ ¬ re = 0 := by omega
    have hv1 : ∀ n, checkI n = 0 → nnI n → layI n = b → M = n.2.1.length ∧ rb = kfrom n.2.1 n.2.2 ∧ re = 0 ∧ acc = n.1 := fun n hc hn hb => by
      obtain ⟨h1, h2, h3, h4, h5⟩ := hv n hc hn hb
      have hw2 := (valI hc).w2
      have hk6 := (valI hc).k6
      rw [drop_end (by omega)] at h3
      exact ⟨h1, h3, h4, by rw [h5, List.take_of_length_le (by omega)]⟩
    clear hv
    refine LoopVC.weak [(.cell 1 1, .nil 3 (.int .i64)), (.cell 1 2, .nil 46 (.slice MsgT))] (fun a : Nat × List Int × Int × List Int × List (List Msg) => [(11, .i .i64 a.1)]) (fun a => [(2, .box [.sl (.int .u8) a.2.1, .i .i64 a.2.2.1]), (4, .arr 3 (.int .i64) a.2.2.2.1), (5, .arr 46 (.slice MsgT) a.2.2.2.2)]) (fun a => (a.1 : Int) ≤ max M 0 ∧ a.1 ≤ 6 ∧ a.2.1 <:+ b ∧ a.2.2.2.1.length = a.1 ∧ a.2.2.2.2.length = a.1 ∧ a.2.2.2.2.flatten.length + a.2.1.length ≤ b.length ∧ (∀ l ∈ a.2.2.2.2, ∀ m ∈ l, 0 ≤ m.1) ∧ ∀ n, checkI n = 0 → nnI n → layI n = b → M = n.2.1.length ∧ acc = n.1 ∧ a.2.1 = kfrom (n.2.1.drop a.1) (n.2.2.drop a.1) ∧ a.2.2.1 = 0 ∧ a.2.2.2.1 = n.2.1.take a.1 ∧ a.2.2.2.2 = n.2.2.take a.1) (fun a => 7 - a.1) (0, rb, re, [], []) (Ev.mk ?_)
    (conv => whnf)
    refine ⟨Leaf.mk ?_, Leaf.mk ?_, ?_⟩
    · rfl
    · have := suf_len hrb
      refine ⟨by dsimp only; omega, by dsimp only; omega, hrb, rfl, rfl, by dsimp only; simp; exact this, fun l hl => by simp at hl, fun n hc hn hb => ?_⟩
      obtain ⟨h1, h3, h4, h5⟩ := hv1 n hc hn hb
      exact ⟨h1, h5, h3, h4, rfl, rfl⟩
    clear hv1 hrb hx
    intro ⟨i, rb, re, ks, bs⟩ ⟨hi, hi6, hrb, hks, hbs, hfl, hnn, hv⟩
    dsimp only at hi hi6 hrb hks hbs hfl hnn hv ⊢
    have hrl := suf_len hrb
    have hs1 := rdSmall_suf rb re
    have hs2 := rdSmall_suf (rdSmall rb re).2.1 (rdSmall rb re).2.2
    have hs1l := suf_len hs1
    have hs2l := suf_len hs2
    repeat' (first | ((with_reducible refine Ev.mk ?_); conv => whnf) | (with_reducible refine And.intro ?_ ?_) | (intro h))
    all_goals (try simp only [decide_eq_true_eq, decide_eq_false_iff_not, beq_iff_eq, bne_iff_ne, beq_eq_false_iff_ne, bne_eq_false_iff_eq, Int.toNat_natCast, ge_iff_le, gt_iff_lt, Bool.not_eq_true', Bool.not_eq_false', Int.not_lt, Int.not_le, ne_eq] at *)
    all_goals (try dsimp only [Ty.den, Ty.dflt, InT, sRSmall] at *)
    all_goals (try simp only [eq4, ne4, eq3, ne3, eq2, ne2, Prod.eta, List.length_cons, List.length_nil, List.length_append, Nat.zero_add] at *)
    all_goals (try simp (disch := omega) only [wrap64] at *)
    all_goals try first | exact leafDraw (by kernel_rfl) | exact Leaf.mk trivial | (refine Leaf.mk ?_; omega) | (refine Leaf.mk ?_; unfold maxLen; omega)
    · have hRB := hs2.trans (hs1.trans hrb)
      have hk : ∀ n, checkI n = 0 → nnI n → layI n = b → M = n.2.1.length ∧ acc = n.1 ∧ (rdSmall rb re).1 = n.2.1.getD i 0 ∧ (rdSmall (rdSmall rb re).2.1 (rdSmall rb re).2.2).1 = (((n.2.2.getD i []).length : Nat) : Int) ∧ (rdSmall (rdSmall rb re).2.1 (rdSmall rb re).2.2).2.1 = (n.2.2.getD i []).flatMap pm ++ kfrom (n.2.1.drop (i + 1)) (n.2.2.drop (i + 1)) ∧ (rdSmall (rdSmall rb re).2.1 (rdSmall rb re).2.2).2.2 = 0 ∧ ks = n.2.1.take i ∧ bs = n.2.2.take i := fun n hc hn hb => by
        obtain ⟨h1, h2, h3, h4, h5, h6⟩ := hv n hc hn hb
        have v := valI hc
        obtain ⟨g1, g2⟩ := v.kid (i := i) (by omega)
        rw [h3, h4, g1]
        dsimp only
        rw [g2]
        exact ⟨h1, h2, rfl, rfl, rfl, rfl, h5, h6⟩
      generalize hk1 : (rdSmall rb re).1 = k1 at *
      have hR2 : ((rdSmall (rdSmall rb re).2.1 (rdSmall rb re).2.2).2.1).length ≤ rb.length := by omega
      generalize (rdSmall (rdSmall rb re).2.1 (rdSmall rb re).2.2).1 = k2 at *
      generalize (rdSmall (rdSmall rb re).2.1 (rdSmall rb re).2.2).2.1 = R2 at *
      generalize (rdSmall (rdSmall rb re).2.1 (rdSmall rb re).2.2).2.2 = e2 at *
      clear hv hs1 hs2 hs1l hs2l
      refine LoopVC.weak [(.slot 12, .nil 48 MsgT)] (fun a : Nat × List Int × List Msg => [(13, .i .i64 a.1)]) (fun a => [(2, .box [.sl (.int .u8) a.2.1, .i .i64 e2]), (3, .arr 48 MsgT a.2.2)]) (fun a => a.2.1 <:+ b ∧ a.2.2.length = a.1 ∧ a.1 + a.2.1.length ≤ R2.length ∧ (∀ m ∈ a.2.2, 0 ≤ m.1) ∧ ∀ n, checkI n = 0 → nnI n → layI n = b → a.1 ≤ (n.2.2.getD i []).length ∧ a.2.1 = ((n.2.2.getD i []).drop a.1).flatMap pm ++ kfrom (n.2.1.drop (i + 1)) (n.2.2.drop (i + 1)) ∧ a.2.2 = (n.2.2.getD i []).take a.1) (fun a => a.2.1.length) (0, R2, []) (Ev.mk ?_)
      (conv => whnf)
      refine ⟨Leaf.mk ?_, Leaf.mk ?_, ?_⟩
      · rfl
      · refine ⟨hRB, rfl, by dsimp only; omega, fun m hm => by simp at hm, fun n hc hn hb => ?_⟩
        obtain ⟨h1, h2, h3, h4, h5, h6⟩ := hk n hc hn hb
        exact ⟨Nat.zero_le _, h5, rfl⟩
      intro ⟨j, rest, buf⟩ ⟨hrs, hbl, hjl, hnb, hw⟩
      dsimp only at hrs hbl hjl hnb hw ⊢
      have hrsl := suf_len hrs
      repeat' (first | ((with_reducible refine Ev.mk ?_); conv => whnf) | (with_reducible refine And.intro ?_ ?_) | (intro h))
      all_goals (try simp only [decide_eq_true_eq, decide_eq_false_iff_not, beq_iff_eq, bne_iff_ne, beq_eq_false_iff_ne, bne_eq_false_iff_eq, Int.toNat_natCast, ge_iff_le, gt_iff_lt, Bool.not_eq_true', Bool.not_eq_false', Int.not_lt, Int.not_le, ne_eq] at *)
      all_goals (try dsimp only [Ty.den, Ty.dflt, InT, sMGetR, sMGet] at *)
      all_goals (try simp only [eq4, ne4, eq3, ne3, eq2, ne2, Prod.eta, List.length_cons, List.length_nil, List.length_append, Nat.zero_add] at *)
      all_goals (try simp (disch := omega) only [wrap64] at *)
      all_goals try first | exact leafDraw (by kernel_rfl) | exact Leaf.mk trivial | (refine Leaf.mk ?_; omega) | (refine Leaf.mk ?_; unfold maxLen; omega)
      all_goals try
        have hst := getM_step (b := rest) ‹(getM rest).2.2 = 0›
      · refine Leaf.mk (retGi (u := (inn0, 4)) (v := getI b) (getI_not fun n hc hn hb => ?_).symm)
        obtain ⟨h1, h2, h3, h4, h5, h8, h6, h7⟩ := hk n hc hn hb
        obtain ⟨g1, g2, g3⟩ := hw n hc hn hb
        have v := valI hc
        have h9 := (v.msg hn (i := i) (j := j) (by have := v.w1; omega) (by omega) (kfrom (n.2.1.drop (i + 1)) (n.2.2.drop (i + 1)))).1
        rw [← g2] at h9
        exact absurd (by rw [h9]) ‹¬ (getM rest).2.2 = 0›
      · exact Leaf.mk (by omega)
      · exact Leaf.mk (by omega)
      · refine Leaf.mk (Exists.intro (j + 1, rest.drop (getM rest).2.1.toNat, buf ++ [(getM rest).1]) ⟨?_, ⟨(List.drop_suffix _ _).trans hrs, by dsimp only; rw [List.length_append, List.length_singleton]; omega, by dsimp only; rw [List.length_drop]; omega, fun m hm => ?_, fun n hc hn hb => ?_⟩, by dsimp only; rw [List.length_drop]; omega⟩)
        · rw [List.take_length]; rfl
        · rcases List.mem_append.1 hm with hm | hm
          · exact hnb m hm
          · rw [List.mem_singleton] at hm; subst hm; exact getM_nn (fun x h => hB x (hrs.subset h))
        · obtain ⟨h1, h2, h3, h4, h5, h8, h6, h7⟩ := hk n hc hn hb
          obtain ⟨g1, g2, g3⟩ := hw n hc hn hb
          have v := valI hc
          have hjl : j < (n.2.2.getD i []).length := by omega
          obtain ⟨q1, q2⟩ := v.msg hn (i := i) (j := j) (by have := v.w1; omega) hjl (kfrom (n.2.1.drop (i + 1)) (n.2.2.drop (i + 1)))
          rw [← g2] at q1 q2
          dsimp only
          rw [q1]
          dsimp only
          rw [Int.toNat_natCast, q2, g3]
          exact ⟨by omega, rfl, (take_at msg0 hjl).symm⟩
      all_goals
        have hx3 : k2 ≤ (j : Int) ∨ ¬ e2 = 0 ∨ rest.length = 0 := by omega
        refine Leaf.mk (Exists.intro (i + 1, rest, e2, ks ++ [k1], bs ++ [buf]) ⟨rfl, ⟨by dsimp only; omega, by dsimp only; omega, hrs, by dsimp only; rw [List.length_append, List.length_singleton]; omega, by dsimp only; rw [List.length_append, List.length_singleton]; omega, ?_, fun l hl => ?_, fun n hc hn hb => ?_⟩, by dsimp only; omega⟩)
        · dsimp only
          rw [List.flatten_append, List.length_append, List.flatten_cons, List.flatten_nil, List.append_nil]; omega
        · rcases List.mem_append.1 hl with hl | hl
          · exact hnn l hl
          · rw [List.mem_singleton] at hl; subst hl; exact hnb
        · obtain ⟨h1, h2, h3, h4, h5, h8, h6, h7⟩ := hk n hc hn hb
          obtain ⟨g1, g2, g3⟩ := hw n hc hn hb
          have v := valI hc
          have hw1 := v.w1
          have hi9 : i < n.2.1.length := by omega
          have hj9 : j = (n.2.2.getD i []).length := by
            rcases hx3 with hx3 | hx3 | hx3
            · omega
            · exact absurd h8 hx3
            · have q1 := pms_ge (b := (n.2.2.getD i []).drop j) fun m hm => v.ms _ (getD_mem (xs := n.2.2) [] (show i < n.2.2.length by omega)) m (List.mem_of_mem_drop hm)
              rw [g2, List.length_append] at hx3
              rw [List.length_drop] at q1
              omega
          dsimp only
          rw [hj9, List.drop_length, List.flatMap_nil, List.nil_append] at g2
          rw [hj9, List.take_length] at g3
          rw [h6, h7, h3, g3, take_at (0 : Int) hi9, take_at ([] : List Msg) (show i < n.2.2.length by omega)]
          exact ⟨h1, h2, g2, h8, rfl, rfl⟩
    all_goals
      have hx2 : M ≤ (i : Int) ∨ 6 ≤ (i : Int) ∨ ¬ re = 0 := by omega
      have hend : ∀ n, checkI n = 0 → nnI n → layI n = b → (acc, ks, bs) = n := fun n hc hn hb => by
        obtain ⟨h1, h2, h3, h4, h5, h6⟩ := hv n hc hn hb
        have := (valI hc).w1
        have := (valI hc).k6
        rw [List.take_of_length_le (by omega)] at h5 h6
        obtain ⟨x, y, z⟩ := n
        dsimp only at h2 h5 h6
        rw [h2, h5, h6]
      have hnI : nnI (acc, ks, bs) := hnn
    all_goals first
      | exact Leaf.mk (show IPre (acc, ks, bs) from ⟨by dsimp only; omega, fun p hp => by have := hat p hp; omega, by dsimp only; omega, by dsimp only; omega, by dsimp only; omega⟩)
      | exact Leaf.mk (retGi (u := (inn0, 4)) (v := getI b) (finI_bad hend (show ¬ (putI (acc, ks, bs)).2 = 0 from ‹_›)).symm)
      | exact Leaf.mk (retGi (u := (inn0, 4)) (v := getI b) (finI_not hend (show (putI (acc, ks, bs)).2 = 0 from ‹_›) (show ¬ strOfBytes (putI (acc, ks, bs)).1 = strOfBytes b from ‹_›)).symm)
      | exact Leaf.mk (retGi (u := ((acc, ks, bs), 0)) (v := getI b) (finI_yes hB hnI (show (putI (acc, ks, bs)).2 = 0 from ‹_›) (show strOfBytes (putI (acc, ks, bs)).1 = strOfBytes b from ‹_›)).symm)
      | skip
end Go.Proofs.YtoedpnniaikfbaaGreat

set_option linter.unusedVariables false
set_option linter.unusedSimpArgs false
set_option maxRecDepth 8000
set_option maxHeartbeats 4000000
namespace Go.Proofs.YtoedpnniaikfbaaGreat
open Go.Eng
def sSame15 : PSpec := ⟨[.d InT, .d InT], [⟨false, [.d .bool]⟩], fun x => List.length x.1.2.1 ≤ 100000 ∧ List.length x.1.2.2 ≤ 100000, fun x => ((sameI x.1 x.2.1, ()), ())⟩
theorem fSame15 : FnOk Tryz.prog 11 := ⟨_, Tryz.func11, by decide, rfl⟩
theorem pSame15 : PSound Tryz.prog 11 sSame15 := by
  refine psound (T := tab) (S := (spOf [(13, sISameR.spec (lsOf []))])) (keep := k11) (by kernel_rfl) tabOk (spCons (pOk pISameR fISameR (by decide) lsNil) spNil) (by kernel_rfl) Tryz.func11 (by kernel_rfl) (by decide) fun xs hg hp => ?_
  obtain ⟨⟨ps, ks, bs⟩, ⟨ps1, ks1, bs1⟩, ⟨⟩⟩ := xs
  clear hg
  change List (List UInt8) at ps ps1
  change List Int at ks ks1
  change List (List Msg) at bs bs1
  change ks.length ≤ 100000 ∧ bs.length ≤ 100000 at hp
  obtain ⟨hk, hb⟩ := hp
  show vfun tab _ k11 Tryz.f11 [.agg [.sl .str ps, .sl (.int .i64) ks, .sl (.slice MsgT) bs], .agg [.sl .str ps1, .sl (.int .i64) ks1, .sl (.slice MsgT) bs1]] [] _
  refine Ev.out ?_
  repeat' (first | ((with_reducible refine Ev.mk ?_); conv => whnf) | (with_reducible refine And.intro ?_ ?_) | (intro h))
  all_goals (try simp only [decide_eq_true_eq, decide_eq_false_iff_not, beq_iff_eq, bne_iff_ne, beq_eq_false_iff_ne, bne_eq_false_iff_eq, Int.toNat_natCast, ge_iff_le, gt_iff_lt, Bool.not_eq_true', Bool.not_eq_false', Int.not_lt, Int.not_le, ne_eq] at *)
  all_goals (try dsimp only [Ty.den, Ty.dflt, InT, sISameR, sISame] at *)
  all_goals (try simp only [eq4, ne4, eq3, ne3, eq2, ne2, Prod.eta, List.length_cons, List.length_nil, List.length_append, Nat.zero_add] at *)
  all_goals (try simp (disch := omega) only [wrap64] at *)
  all_goals try first | exact leafDraw (by kernel_rfl) | exact Leaf.mk trivial | (refine Leaf.mk ?_; omega) | (refine Leaf.mk ?_; unfold maxLen; omega)
  all_goals first
    | exact Leaf.mk (show ks.length ≤ 100000 ∧ bs.length ≤ 100000 by omega)
    | exact Leaf.mk rfl
    | skip
theorem sameI_self {a : Inn} {P : Prop} (h : sameI a a = false) : P := absurd (show sameI a a = true from decide_eq_true rfl) (by rw [h]; simp)
theorem getI_len (b : List Int) : (getI b).1.2.1.length ≤ 100000 ∧ (getI b).1.2.2.length ≤ 100000 := by
  rw [getI]
  split
  · rename_i h
    have v := valI h.1
    have := v.w1; have := v.k6
    dsimp only
    omega
  · exact ⟨by decide, by decide⟩
def sInnerPuts : PSpec := lawSpec [InT, InT, BT]
theorem pInnerPuts : PSound Tryz.prog 3 sInnerPuts := by
  refine psound (T := tab) (S := (spOf [(4, sLightI.spec (lsOf [])), (5, sAwake15.spec (lsOf [])), (7, sOwnL.spec (lsOf [])), (6, sIPut.spec (lsOf [])), (8, sIPutR.spec (lsOf [])), (9, sIGet.spec (lsOf [])), (10, sIGetR.spec (lsOf [])), (11, sSame15.spec (lsOf [])), (12, sISame.spec (lsOf [])), (13, sISameR.spec (lsOf []))])) (keep := k3) (by kernel_rfl) tabOk (spCons (pOk pLightI fLightI (by decide) lsNil) (spCons (pOk pAwake15 fAwake15 (by decide) lsNil) (spCons (pOk pOwnL fOwnL (by decide) lsNil) (spCons (pOk pIPut fIPut (by decide) lsNil) (spCons (pOk pIPutR fIPutR (by decide) lsNil) (spCons (pOk pIGet fIGet (by decide) lsNil) (spCons (pOk pIGetR fIGetR (by decide) lsNil) (spCons (pOk pSame15 fSame15 (by decide) lsNil) (spCons (pOk pISame fISame (by decide) lsNil) (spCons (pOk pISameR fISameR (by decide) lsNil) spNil)))))))))) (by kernel_rfl) Tryz.func3 (by kernel_rfl) (by decide) fun xs hg hp => ?_
  obtain ⟨⟨ps, ks, bs⟩, ⟨ps1, ks1, bs1⟩, b, ⟨⟩⟩ := xs
  clear hp hg
  change List (List UInt8) at ps ps1
  change List Int at ks ks1
  change List (List Msg) at bs bs1
  change List Int at b
  show vfun tab _ k3 Tryz.f3 [.agg [.sl .str ps, .sl (.int .i64) ks, .sl (.slice MsgT) bs], .agg [.sl .str ps1, .sl (.int .i64) ks1, .sl (.slice MsgT) bs1], .sl (.int .u8) b] [] _
  refine Ev.out ?_
  repeat' (first | ((with_reducible refine Ev.mk ?_); conv => whnf) | (with_reducible refine And.intro ?_ ?_) | (intro h))
  all_goals (try simp only [decide_eq_true_eq, decide_eq_false_iff_not, beq_iff_eq, bne_iff_ne, beq_eq_false_iff_ne, bne_eq_false_iff_eq, Int.toNat_natCast, ge_iff_le, gt_iff_lt, Bool.not_eq_true', Bool.not_eq_false', Int.not_lt, Int.not_le, ne_eq] at *)
  all_goals (try dsimp only [Ty.den, Ty.dflt, InT, sLightI, sOwnL, sIPut, sIPutR, sIGet, sIGetR, sSame15, sISame, sISameR, sAwake15] at *)
  all_goals (try simp only [eq4, ne4, eq3, ne3, eq2, ne2, Prod.eta, List.length_cons, List.length_nil, List.length_append, Nat.zero_add] at *)
  all_goals (try simp (disch := omega) only [wrap64] at *)
  all_goals try first | exact leafDraw (by kernel_rfl) | exact Leaf.mk trivial | (refine Leaf.mk ?_; omega) | (refine Leaf.mk ?_; unfold maxLen; omega)
  all_goals first
    | exact Leaf.mk rfl
    | skip
  all_goals
    have hI := (lightI_pre (show lightI (ps, ks, bs) = true by assumption)).1
    have hJ := (lightI_pre (show lightI (ps1, ks1, bs1) = true by assumption)).1
    have hk := hI.k
    have hb := hI.b
    dsimp only at hk hb
  all_goals first
    | exact Leaf.mk hI
    | exact Leaf.mk hJ
    | exact Leaf.mk (show List.length (α := Int) b ≤ 5000 by omega)
    | exact Leaf.mk (getI_len b)
    | exact Leaf.mk (show ks.length ≤ 100000 ∧ bs.length ≤ 100000 by omega)
    | (exfalso; exact absurd rfl ‹¬ sameI (ps, ks, bs) (ps1, ks1, bs1) = sameI (ps, ks, bs) (ps1, ks1, bs1)›)
    | (exfalso; exact absurd rfl ‹¬ (getI b).2 = (getI b).2›)
    | (exfalso; exact sameI_self (show sameI (getI b).1 (getI b).1 = false by assumption))
    | (exfalso; exact absurd rfl ‹¬ (putI (ps, ks, bs)).2 = (putI (ps, ks, bs)).2›)
    | (exfalso; exact absurd trivial ‹¬ True›)
    | (exfalso; exact absurd rfl h)
    | skip
end Go.Proofs.YtoedpnniaikfbaaGreat
