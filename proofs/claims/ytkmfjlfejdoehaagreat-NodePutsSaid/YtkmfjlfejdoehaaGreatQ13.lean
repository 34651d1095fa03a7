import Derived.Test.YtkmfjlfejdoehaaGreatQ12
/- Texts, one behind the other. -/
set_option linter.unusedVariables false
set_option linter.unusedSimpArgs false
set_option maxRecDepth 8000
set_option maxHeartbeats 4000000
namespace Go.Proofs.YtkmfjlfejdoehaaGreat
open Go.Eng
def sIGetR : PSpec := sIGet
theorem fIGetR : FnOk Tryz.prog 119 := ⟨_, Tryz.func119, by decide, rfl⟩
theorem pIGetR : PSound Tryz.prog 119 sIGetR := by
  refine psound (T := tab) (S := (spOf [(100, sRSmall.spec (lsOf [])), (177, sRText.spec (lsOf [])), (178, sMGetR.spec (lsOf [])), (117, sIPutR.spec (lsOf []))])) (keep := k119) (by kernel_rfl) tabOk (spCons (pOk pRSmall fRSmall (by decide) lsNil) (spCons (pOk pRText fRText (by decide) lsNil) (spCons (pOk pMGetR fMGetR (by decide) lsNil) (spCons (pOk pIPutR fIPutR (by decide) lsNil) spNil)))) (by kernel_rfl) Tryz.func119 (by kernel_rfl) (by decide) fun xs hg hp => ?_
  obtain ⟨b, ⟨⟩⟩ := xs
  obtain ⟨⟨-, hx⟩, -⟩ := hg
  change List Int at b
  change b.length ≤ 5000 at hp
  have hB : isB b := isB_good hx
  change ∀ x ∈ b, Eng.Good (.int .u8) x at hx
  have hb1 := rdSmall_suf b 0
  have hl1 := suf_len hb1
  show vfun tab _ k119 Tryz.f119 [.sl (.int .u8) b] [] _
  refine Ev.out ?_
  repeat' (first | ((with_reducible refine Ev.mk ?_); conv => whnf) | (with_reducible refine And.intro ?_ ?_) | (intro h))
  all_goals (try simp only [decide_eq_true_eq, decide_eq_false_iff_not, beq_iff_eq, bne_iff_ne, beq_eq_false_iff_ne, bne_eq_false_iff_eq, Int.toNat_natCast, ge_iff_le, gt_iff_lt, Bool.not_eq_true', Bool.not_eq_false', Int.not_lt, Int.not_le, ne_eq] at *)
  all_goals (try dsimp only [Ty.den, Ty.dflt, InT, sRSmall] at *)
  all_goals (try simp only [eq4, ne4, eq3, ne3, eq2, ne2, Prod.eta, List.length_cons, List.length_nil, List.length_append, Nat.zero_add] at *)
  all_goals (try simp (disch := omega) only [wrap64] at *)
  all_goals try first | exact leafDraw (by kernel_rfl) | exact Leaf.mk trivial | (refine Leaf.mk ?_; omega) | (refine Leaf.mk ?_; unfold maxLen; omega)
  generalize hN : (rdSmall b 0).1 = M
  generalize hb0 : (rdSmall b 0).2.1 = b0 at *
  generalize he0 : (rdSmall b 0).2.2 = e0
  have h0 : ∀ n, checkI n = 0 → nnI n → layI n = b → M = n.2.1.length ∧ b0 = n.1.flatMap putText ++ kfrom n.2.1 n.2.2 ∧ e0 = 0 := fun n hc hn hb => by
    have v := valI hc
    have h1 := v.hd hb
    rw [h1] at hN hb0 he0
    exact ⟨hN.symm, hb0.symm, he0.symm⟩
  clear hN he0
  refine LoopVC.weak [(.cell 1 0, .nil 9 .str)] (fun a : Nat × List Int × Int × List S8 => [(10, .i .i64 a.1)]) (fun a => [(2, .box [.sl (.int .u8) a.2.1, .i .i64 a.2.2.1]), (3, .arr 9 .str a.2.2.2)]) (fun a => 1 ≤ a.1 ∧ a.1 ≤ 6 ∧ a.2.1 <:+ b ∧ a.2.2.2.length + 1 = a.1 ∧ (∀ p ∈ a.2.2.2, p.length ≤ 16) ∧ ∀ n, checkI n = 0 → nnI n → layI n = b → M = n.2.1.length ∧ a.1 ≤ n.2.1.length ∧ a.2.1 = (n.1.drop (a.1 - 1)).flatMap putText ++ kfrom n.2.1 n.2.2 ∧ a.2.2.1 = 0 ∧ a.2.2.2 = n.1.take (a.1 - 1)) (fun a => 7 - a.1) (1, b0, e0, []) (Ev.mk ?_)
  (conv => whnf)
  refine ⟨Leaf.mk ?_, Leaf.mk ?_, ?_⟩
  · rfl
  · refine ⟨by dsimp only; omega, by dsimp only; omega, hb1, rfl, fun p hp => by simp at hp, fun n hc hn hb => ?_⟩
    have v := valI hc
    have h2 := v.k2
    obtain ⟨h1, h3, h4⟩ := h0 n hc hn hb
    exact ⟨h1, by dsimp only; omega, h3, h4, rfl⟩
  clear h0 hb0 hl1
  intro ⟨i, rb, re, acc⟩ ⟨hi1, hi7, hrb, hacc, hat, hv⟩
  dsimp only at hi1 hi7 hrb hacc hat hv ⊢
  have hrl := suf_len hrb
  repeat' (first | ((with_reducible refine Ev.mk ?_); conv => whnf) | (with_reducible refine And.intro ?_ ?_) | (intro h))
  all_goals (try simp only [decide_eq_true_eq, decide_eq_false_iff_not, beq_iff_eq, bne_iff_ne, beq_eq_false_iff_ne, bne_eq_false_iff_eq, Int.toNat_natCast, ge_iff_le, gt_iff_lt, Bool.not_eq_true', Bool.not_eq_false', Int.not_lt, Int.not_le, ne_eq] at *)
  all_goals (try dsimp only [Ty.den, Ty.dflt, InT, sRText] at *)
  all_goals (try simp only [eq4, ne4, eq3, ne3, eq2, ne2, Prod.eta, List.length_cons, List.length_nil, List.length_append, Nat.zero_add] at *)
  all_goals (try simp (disch := omega) only [wrap64] at *)
  all_goals try first | exact leafDraw (by kernel_rfl) | exact Leaf.mk trivial | (refine Leaf.mk ?_; omega) | (refine Leaf.mk ?_; unfold maxLen; omega)
  · have hts := rdText_suf rb re 16
    have htm := rdText_max9 rb re (m := 16) (by decide)
    refine Leaf.mk (Exists.intro (i + 1, (rdText rb re 16).2.1, (rdText rb re 16).2.2, acc ++ [(rdText rb re 16).1]) ⟨rfl, ⟨by dsimp only; omega, by dsimp only; omega, hts.trans hrb, by dsimp only; rw [List.length_append, List.length_singleton]; omega, fun p hp => ?_, fun n hc hn hb => ?_⟩, by dsimp only; omega⟩)
    · rcases List.mem_append.1 hp with hp | hp
      · exact hat p hp
      · rw [List.mem_singleton] at hp; subst hp; omega
    · obtain ⟨h1, h2, h3, h4, h5⟩ := hv n hc hn hb
      have v := valI hc
      have hw2 := v.w2
      have h6 := v.piv (i := i - 1) (by omega) (kfrom n.2.1 n.2.2)
      dsimp only
      rw [h3, h4, h6, h5, show i + 1 - 1 = i - 1 + 1 by omega]
      exact ⟨h1, by omega, rfl, rfl, (take_at [] (show i - 1 < n.1.length by omega)).symm⟩
  all_goals
    have hx : M ≤ (i : Int) ∨ 6 ≤ (i : Int) ∨ ¬ re = 0 := by omega
    have hv1 : ∀ n, checkI n = 0 → nnI n → layI n = b → M = n.2.1.length ∧ rb = kfrom n.2.1 n.2.2 ∧ re = 0 ∧ acc = n.1 := fun n hc hn hb => by
      obtain ⟨h1, h2, h3, h4, h5⟩ := hv n hc hn hb
      have hw2 := (valI hc).w2
      have hk6 := (valI hc).k6
      rw [drop_end (by omega)] at h3
      exact ⟨h1, h3, h4, by rw [h5, List.take_of_length_le (by omega)]⟩
    clear hv
    refine LoopVC.weak [(.cell 1 1, .nil 3 (.int .i64)), (.cell 1 2, .nil 23 (.slice MsgT))] (fun a : Nat × List Int × Int × List Int × List (List Msg) => [(11, .i .i64 a.1)]) (fun a => [(2, .box [.sl (.int .u8) a.2.1, .i .i64 a.2.2.1]), (4, .arr 3 (.int .i64) a.2.2.2.1), (5, .arr 23 (.slice MsgT) a.2.2.2.2)]) (fun a => (a.1 : Int) ≤ max M 0 ∧ a.1 ≤ 6 ∧ a.2.1 <:+ b ∧ a.2.2.2.1.length = a.1 ∧ a.2.2.2.2.length = a.1 ∧ a.2.2.2.2.flatten.length + a.2.1.length ≤ b.length ∧ (∀ l ∈ a.2.2.2.2, ∀ m ∈ l, 0 ≤ m.1) ∧ ∀ n, checkI n = 0 → nnI n → layI n = b → M = n.2.1.length ∧ acc = n.1 ∧ a.2.1 = kfrom (n.2.1.drop a.1) (n.2.2.drop a.1) ∧ a.2.2.1 = 0 ∧ a.2.2.2.1 = n.2.1.take a.1 ∧ a.2.2.2.2 = n.2.2.take a.1) (fun a => 7 - a.1) (0, rb, re, [], []) (Ev.mk ?_)
    (conv => whnf)
    refine ⟨Leaf.mk ?_, Leaf.mk ?_, ?_⟩
    · rfl
    · have := suf_len hrb
      refine ⟨by dsimp only; omega, by dsimp only; omega, hrb, rfl, rfl, by dsimp only; simp; exact this, fun l hl => by simp at hl, fun n hc hn hb => ?_⟩
      obtain ⟨h1, h3, h4, h5⟩ := hv1 n hc hn hb
      exact ⟨h1, h5, h3, h4, rfl, rfl⟩
    clear hv1 hrb hx
    intro ⟨i, rb, re, ks, bs⟩ ⟨hi, hi6, hrb, hks, hbs, hfl, hnn, hv⟩
    dsimp only at hi hi6 hrb hks hbs hfl hnn hv ⊢
    have hrl := suf_len hrb
    have hs1 := rdSmall_suf rb re
    have hs2 := rdSmall_suf (rdSmall rb re).2.1 (rdSmall rb re).2.2
    have hs1l := suf_len hs1
    have hs2l := suf_len hs2
    repeat' (first | ((with_reducible refine Ev.mk ?_); conv => whnf) | (with_reducible refine And.intro ?_ ?_) | (intro h))
    all_goals (try simp only [decide_eq_true_eq, decide_eq_false_iff_not, beq_iff_eq, bne_iff_ne, beq_eq_false_iff_ne, bne_eq_false_iff_eq, Int.toNat_natCast, ge_iff_le, gt_iff_lt, Bool.not_eq_true', Bool.not_eq_false', Int.not_lt, Int.not_le, ne_eq] at *)
    all_goals (try dsimp only [Ty.den, Ty.dflt, InT, sRSmall] at *)
    all_goals (try simp only [eq4, ne4, eq3, ne3, eq2, ne2, Prod.eta, List.length_cons, List.length_nil, List.length_append, Nat.zero_add] at *)
    all_goals (try simp (disch := omega) only [wrap64] at *)
    all_goals try first | exact leafDraw (by kernel_rfl) | exact Leaf.mk trivial | (refine Leaf.mk ?_; omega) | (refine Leaf.mk ?_; unfold maxLen; omega)
    · have hRB := hs2.trans (hs1.trans hrb)
      have hk : ∀ n, checkI n = 0 → nnI n → layI n = b → M = n.2.1.length ∧ acc = n.1 ∧ (rdSmall rb re).1 = n.2.1.getD i 0 ∧ (rdSmall (rdSmall rb re).2.1 (rdSmall rb re).2.2).1 = (((n.2.2.getD i []).length : Nat) : Int) ∧ (rdSmall (rdSmall rb re).2.1 (rdSmall rb re).2.2).2.1 = (n.2.2.getD i []).flatMap pm ++ kfrom (n.2.1.drop (i + 1)) (n.2.2.drop (i + 1)) ∧ (rdSmall (rdSmall rb re).2.1 (rdSmall rb re).2.2).2.2 = 0 ∧ ks = n.2.1.take i ∧ bs = n.2.2.take i := fun n hc hn hb => by
        obtain ⟨h1, h2, h3, h4, h5, h6⟩ := hv n hc hn hb
        have v := valI hc
        obtain ⟨g1, g2⟩ := v.kid (i := i) (by omega)
        rw [h3, h4, g1]
        dsimp only
        rw [g2]
        exact ⟨h1, h2, rfl, rfl, rfl, rfl, h5, h6⟩
      generalize hk1 : (rdSmall rb re).1 = k1 at *
      have hR2 : ((rdSmall (rdSmall rb re).2.1 (rdSmall rb re).2.2).2.1).length ≤ rb.length := by omega
      generalize (rdSmall (rdSmall rb re).2.1 (rdSmall rb re).2.2).1 = k2 at *
      generalize (rdSmall (rdSmall rb re).2.1 (rdSmall rb re).2.2).2.1 = R2 at *
      generalize (rdSmall (rdSmall rb re).2.1 (rdSmall rb re).2.2).2.2 = e2 at *
      clear hv hs1 hs2 hs1l hs2l
      refine LoopVC.weak [(.slot 12, .nil 34 MsgT)] (fun a : Nat × List Int × List Msg => [(13, .i .i64 a.1)]) (fun a => [(2, .box [.sl (.int .u8) a.2.1, .i .i64 e2]), (3, .arr 34 MsgT a.2.2)]) (fun a => a.2.1 <:+ b ∧ a.2.2.length = a.1 ∧ a.1 + a.2.1.length ≤ R2.length ∧ (∀ m ∈ a.2.2, 0 ≤ m.1) ∧ ∀ n, checkI n = 0 → nnI n → layI n = b → a.1 ≤ (n.2.2.getD i []).length ∧ a.2.1 = ((n.2.2.getD i []).drop a.1).flatMap pm ++ kfrom (n.2.1.drop (i + 1)) (n.2.2.drop (i + 1)) ∧ a.2.2 = (n.2.2.getD i []).take a.1) (fun a => a.2.1.length) (0, R2, []) (Ev.mk ?_)
      (conv => whnf)
      refine ⟨Leaf.mk ?_, Leaf.mk ?_, ?_⟩
      · rfl
      · refine ⟨hRB, rfl, by dsimp only; omega, fun m hm => by simp at hm, fun n hc hn hb => ?_⟩
        obtain ⟨h1, h2, h3, h4, h5, h6⟩ := hk n hc hn hb
        exact ⟨Nat.zero_le _, h5, rfl⟩
      intro ⟨j, rest, buf⟩ ⟨hrs, hbl, hjl, hnb, hw⟩
      dsimp only at hrs hbl hjl hnb hw ⊢
      have hrsl := suf_len hrs
      repeat' (first | ((with_reducible refine Ev.mk ?_); conv => whnf) | (with_reducible refine And.intro ?_ ?_) | (intro h))
      all_goals (try simp only [decide_eq_true_eq, decide_eq_false_iff_not, beq_iff_eq, bne_iff_ne, beq_eq_false_iff_ne, bne_eq_false_iff_eq, Int.toNat_natCast, ge_iff_le, gt_iff_lt, Bool.not_eq_true', Bool.not_eq_false', Int.not_lt, Int.not_le, ne_eq] at *)
      all_goals (try dsimp only [Ty.den, Ty.dflt, InT, sMGetR, sMGet] at *)
      all_goals (try simp only [eq4, ne4, eq3, ne3, eq2, ne2, Prod.eta, List.length_cons, List.length_nil, List.length_append, Nat.zero_add] at *)
      all_goals (try simp (disch := omega) only [wrap64] at *)
      all_goals try first | exact leafDraw (by kernel_rfl) | exact Leaf.mk trivial | (refine Leaf.mk ?_; omega) | (refine Leaf.mk ?_; unfold maxLen; omega)
      all_goals try
        have hst := getM_step (b := rest) ‹(getM rest).2.2 = 0›
      · refine Leaf.mk (retGi (u := (inn0, 4)) (v := getI b) (getI_not fun n hc hn hb => ?_).symm)
        obtain ⟨h1, h2, h3, h4, h5, h8, h6, h7⟩ := hk n hc hn hb
        obtain ⟨g1, g2, g3⟩ := hw n hc hn hb
        have v := valI hc
        have h9 := (v.msg hn (i := i) (j := j) (by have := v.w1; omega) (by omega) (kfrom (n.2.1.drop (i + 1)) (n.2.2.drop (i + 1)))).1
        rw [← g2] at h9
        exact absurd (by rw [h9]) ‹¬ (getM rest).2.2 = 0›
      · exact Leaf.mk (by omega)
      · exact Leaf.mk (by omega)
      · refine Leaf.mk (Exists.intro (j + 1, rest.drop (getM rest).2.1.toNat, buf ++ [(getM rest).1]) ⟨?_, ⟨(List.drop_suffix _ _).trans hrs, by dsimp only; rw [List.length_append, List.length_singleton]; omega, by dsimp only; rw [List.length_drop]; omega, fun m hm => ?_, fun n hc hn hb => ?_⟩, by dsimp only; rw [List.length_drop]; omega⟩)
        · rw [List.take_length]; rfl
        · rcases List.mem_append.1 hm with hm | hm
          · exact hnb m hm
          · rw [List.mem_singleton] at hm; subst hm; exact getM_nn (fun x h => hB x (hrs.subset h))
        · obtain ⟨h1, h2, h3, h4, h5, h8, h6, h7⟩ := hk n hc hn hb
          obtain ⟨g1, g2, g3⟩ := hw n hc hn hb
          have v := valI hc
          have hjl : j < (n.2.2.getD i []).length := by omega
          obtain ⟨q1, q2⟩ := v.msg hn (i := i) (j := j) (by have := v.w1; omega) hjl (kfrom (n.2.1.drop (i + 1)) (n.2.2.drop (i + 1)))
          rw [← g2] at q1 q2
          dsimp only
          rw [q1]
          dsimp only
          rw [Int.toNat_natCast, q2, g3]
          exact ⟨by omega, rfl, (take_at msg0 hjl).symm⟩
      all_goals
        have hx3 : k2 ≤ (j : Int) ∨ ¬ e2 = 0 ∨ rest.length = 0 := by omega
        refine Leaf.mk (Exists.intro (i + 1, rest, e2, ks ++ [k1], bs ++ [buf]) ⟨rfl, ⟨by dsimp only; omega, by dsimp only; omega, hrs, by dsimp only; rw [List.length_append, List.length_singleton]; omega, by dsimp only; rw [List.length_append, List.length_singleton]; omega, ?_, fun l hl => ?_, fun n hc hn hb => ?_⟩, by dsimp only; omega⟩)
        · dsimp only
          rw [List.flatten_append, List.length_append, List.flatten_cons, List.flatten_nil, List.append_nil]; omega
        · rcases List.mem_append.1 hl with hl | hl
          · exact hnn l hl
          · rw [List.mem_singleton] at hl; subst hl; exact hnb
        · obtain ⟨h1, h2, h3, h4, h5, h8, h6, h7⟩ := hk n hc hn hb
          obtain ⟨g1, g2, g3⟩ := hw n hc hn hb
          have v := valI hc
          have hw1 := v.w1
          have hi9 : i < n.2.1.length := by omega
          have hj9 : j = (n.2.2.getD i []).length := by
            rcases hx3 with hx3 | hx3 | hx3
            · omega
            · exact absurd h8 hx3
            · have q1 := pms_ge (b := (n.2.2.getD i []).drop j) fun m hm => v.ms _ (getD_mem (xs := n.2.2) [] (show i < n.2.2.length by omega)) m (List.mem_of_mem_drop hm)
              rw [g2, List.length_append] at hx3
              rw [List.length_drop] at q1
              omega
          dsimp only
          rw [hj9, List.drop_length, List.flatMap_nil, List.nil_append] at g2
          rw [hj9, List.take_length] at g3
          rw [h6, h7, h3, g3, take_at (0 : Int) hi9, take_at ([] : List Msg) (show i < n.2.2.length by omega)]
          exact ⟨h1, h2, g2, h8, rfl, rfl⟩
    all_goals
      have hx2 : M ≤ (i : Int) ∨ 6 ≤ (i : Int) ∨ ¬ re = 0 := by omega
      have hend : ∀ n, checkI n = 0 → nnI n → layI n = b → (acc, ks, bs) = n := fun n hc hn hb => by
        obtain ⟨h1, h2, h3, h4, h5, h6⟩ := hv n hc hn hb
        have := (valI hc).w1
        have := (valI hc).k6
        rw [List.take_of_length_le (by omega)] at h5 h6
        obtain ⟨x, y, z⟩ := n
        dsimp only at h2 h5 h6
        rw [h2, h5, h6]
      have hnI : nnI (acc, ks, bs) := hnn
    all_goals first
      | exact Leaf.mk (show IPre (acc, ks, bs) from ⟨by dsimp only; omega, fun p hp => by have := hat p hp; omega, by dsimp only; omega, by dsimp only; omega, by dsimp only; omega⟩)
      | exact Leaf.mk (retGi (u := (inn0, 4)) (v := getI b) (finI_bad hend (show ¬ (putI (acc, ks, bs)).2 = 0 from ‹_›)).symm)
      | exact Leaf.mk (retGi (u := (inn0, 4)) (v := getI b) (finI_not hend (show (putI (acc, ks, bs)).2 = 0 from ‹_›) (show ¬ strOfBytes (putI (acc, ks, bs)).1 = strOfBytes b from ‹_›)).symm)
      | exact Leaf.mk (retGi (u := ((acc, ks, bs), 0)) (v := getI b) (finI_yes hB hnI (show (putI (acc, ks, bs)).2 = 0 from ‹_›) (show strOfBytes (putI (acc, ks, bs)).1 = strOfBytes b from ‹_›)).symm)
      | skip
end Go.Proofs.YtkmfjlfejdoehaaGreat

set_option linter.unusedVariables false
set_option linter.unusedSimpArgs false
set_option maxRecDepth 8000
set_option maxHeartbeats 4000000
namespace Go.Proofs.YtkmfjlfejdoehaaGreat
open Go.Eng
abbrev NdT : Ty := .pair (.int .i64) (.pair SsT InT)
abbrev Nod : Type := Int × List Stk × Inn
abbrev nod0 : Nod := (0, [], inn0)
structure NPre (n : Nod) : Prop where
  l : n.2.1.length ≤ 100000
  i : IPre n.2.2
def emptyN (n : Nod) : Bool := if n.1 = 0 then decide (n.2.2.1.length = 0 ∧ n.2.2.2.1.length = 0 ∧ n.2.2.2.2.length = 0) else decide (n.2.1.length = 0)
def sizeN (n : Nod) : Int := if n.1 = 0 then 1 + (sizeF n.2.1 : Nat) else 1 + (sizeI n.2.2 : Nat)
def insideN (n : Nod) : Int := if n.1 = 0 then checkL n.2.1 else checkI n.2.2
def checkN (n : Nod) : Int := if n.1 < 0 ∨ 40 < n.1 then 9 else if emptyN n = true then (if insideN n = 0 then (if 1016 < sizeN n then 5 else 0) else insideN n) else 4
theorem fContent : FnOk Tryz.prog 115 := ⟨_, Tryz.func115, by decide, rfl⟩
noncomputable def iContent : Eng.Spec := inl tab (spOf []) k115 Tryz.f115
theorem pContent : SpecOk Tryz.prog 115 iContent := inl_ok tabOk spNil (by kernel_rfl) Tryz.func115 (by kernel_rfl)
def sEmptyN : PSpec := ⟨[.d NdT], [⟨false, [.d .bool]⟩], fun x => NPre x.1, fun x => ((emptyN x.1, ()), ())⟩
def sInsideN : PSpec := ⟨[.d NdT], [⟨false, [.d (.int .i64)]⟩], fun x => NPre x.1, fun x => ((insideN x.1, ()), ())⟩
def sNSize : PSpec := ⟨[.d NdT], [⟨false, [.d (.int .i64)]⟩], fun x => NPre x.1, fun x => ((sizeN x.1, ()), ())⟩
def sNSizeR : PSpec := sNSize
def sNCheck : PSpec := ⟨[.d NdT], [⟨false, [.d (.int .i64)]⟩], fun x => NPre x.1, fun x => ((checkN x.1, ()), ())⟩
def sNCheckR : PSpec := sNCheck
theorem emptyN_l {n : Nod} (h : ¬ n.1 = 0) : emptyN n = decide (n.2.1.length = 0) := by rw [emptyN, if_neg h]
theorem emptyN_i {n : Nod} (h : n.1 = 0) : emptyN n = decide (n.2.2.1.length = 0 ∧ n.2.2.2.1.length = 0 ∧ n.2.2.2.2.length = 0) := by rw [emptyN, if_pos h]
theorem fEmptyN : FnOk Tryz.prog 120 := ⟨_, Tryz.func120, by decide, rfl⟩
theorem pEmptyN : PSound Tryz.prog 120 sEmptyN := by
  refine psound (T := tab) (S := (spOf [])) (keep := k120) (by kernel_rfl) tabOk spNil (by kernel_rfl) Tryz.func120 (by kernel_rfl) (by decide) fun xs hg hp => ?_
  obtain ⟨⟨d, l, ps, ks, bs⟩, ⟨⟩⟩ := xs
  clear hg
  change Int at d
  change List Stk at l
  change List (List UInt8) at ps
  change List Int at ks
  change List (List Msg) at bs
  change NPre (d, l, ps, ks, bs) at hp
  have hpl := hp.l
  have hpi := hp.i
  have hpp := hpi.p
  have hpk := hpi.k
  have hpb := hpi.b
  dsimp only at hpl hpi hpp hpk hpb
  show vfun tab _ k120 Tryz.f120 [.agg [.i .i64 d, .sl StT l, .sl .str ps, .sl (.int .i64) ks, .sl (.slice MsgT) bs]] [] _
  refine Ev.out ?_
  repeat' (first | ((with_reducible refine Ev.mk ?_); conv => whnf) | (with_reducible refine And.intro ?_ ?_) | (intro h))
  all_goals (try simp only [decide_eq_true_eq, decide_eq_false_iff_not, beq_iff_eq, bne_iff_ne, beq_eq_false_iff_ne, bne_eq_false_iff_eq, Int.toNat_natCast, ge_iff_le, gt_iff_lt, Bool.not_eq_true', Bool.not_eq_false', Int.not_lt, Int.not_le, ne_eq] at *)
  all_goals (try dsimp only [Ty.den, Ty.dflt, NdT, SsT] at *)
  all_goals (try simp only [eq4, ne4, eq3, ne3, eq2, ne2, Prod.eta, List.length_cons, List.length_nil, List.length_append, Nat.zero_add] at *)
  all_goals (try simp (disch := omega) only [wrap64] at *)
  all_goals try first | exact leafDraw (by kernel_rfl) | exact Leaf.mk trivial | (refine Leaf.mk ?_; omega) | (refine Leaf.mk ?_; unfold maxLen; omega)
  · refine Leaf.mk (ret1 (show ((l.length : Int) == 0) = emptyN (d, l, ps, ks, bs) from ?_))
    rw [emptyN_l h]; apply Bool.eq_iff_iff.2; simp
  · refine Leaf.mk (ret1 (show ((ps.length : Int) + ks.length + bs.length == 0) = emptyN (d, l, ps, ks, bs) from ?_))
    rw [emptyN_i h]; apply Bool.eq_iff_iff.2; rw [beq_iff_eq, decide_eq_true_iff]; dsimp only; omega
theorem fInsideN : FnOk Tryz.prog 121 := ⟨_, Tryz.func121, by decide, rfl⟩
theorem pInsideN : PSound Tryz.prog 121 sInsideN := by
  refine psound (T := tab) (S := (spOf [(115, iContent), (24, sLCheck.spec (lsOf [])), (173, sICheck.spec (lsOf []))])) (keep := k121) (by kernel_rfl) tabOk (spCons (.inl ⟨pContent, fContent⟩) (spCons (pOk pLCheck fLCheck (by decide) lsNil) (spCons (pOk pICheck fICheck (by decide) lsNil) spNil))) (by kernel_rfl) Tryz.func121 (by kernel_rfl) (by decide) fun xs hg hp => ?_
  obtain ⟨⟨d, l, ps, ks, bs⟩, ⟨⟩⟩ := xs
  clear hg
  change Int at d
  change List Stk at l
  change List (List UInt8) at ps
  change List Int at ks
  change List (List Msg) at bs
  change NPre (d, l, ps, ks, bs) at hp
  have hpl := hp.l
  have hpi := hp.i
  have hpp := hpi.p
  have hpk := hpi.k
  have hpb := hpi.b
  dsimp only at hpl hpi hpp hpk hpb
  show vfun tab _ k121 Tryz.f121 [.agg [.i .i64 d, .sl StT l, .sl .str ps, .sl (.int .i64) ks, .sl (.slice MsgT) bs]] [] _
  refine Ev.out ?_
  repeat' (first | ((with_reducible refine Ev.mk ?_); conv => whnf) | (with_reducible refine And.intro ?_ ?_) | (intro h))
  all_goals (try simp only [decide_eq_true_eq, decide_eq_false_iff_not, beq_iff_eq, bne_iff_ne, beq_eq_false_iff_ne, bne_eq_false_iff_eq, Int.toNat_natCast, ge_iff_le, gt_iff_lt, Bool.not_eq_true', Bool.not_eq_false', Int.not_lt, Int.not_le, ne_eq] at *)
  all_goals (try dsimp only [Ty.den, Ty.dflt, NdT, SsT] at *)
  all_goals (try simp only [eq4, ne4, eq3, ne3, eq2, ne2, Prod.eta, List.length_cons, List.length_nil, List.length_append, Nat.zero_add] at *)
  all_goals (try simp (disch := omega) only [wrap64] at *)
  all_goals try first | exact leafDraw (by kernel_rfl) | exact Leaf.mk trivial | (refine Leaf.mk ?_; omega) | (refine Leaf.mk ?_; unfold maxLen; omega)
  · exact Leaf.mk hpl
  · refine Leaf.mk (ret1 (show checkL l = insideN (d, l, ps, ks, bs) from ?_))
    rw [insideN, if_pos h]
  · exact Leaf.mk hpi
  · refine Leaf.mk (ret1 (show checkI (ps, ks, bs) = insideN (d, l, ps, ks, bs) from ?_))
    rw [insideN, if_neg h]
theorem sizeF_nn (l : List Stk) (h : l.length ≤ 100000) : sizeF l ≤ 100000000 := by
  have := sumN_le l
  have h2 := putSmall_len (l.length : Nat)
  rw [sizeF, layF, List.length_append]
  rw [sumN] at this
  omega
theorem sizeI_nn {n : Inn} (h : IPre n) : sizeI n ≤ 600000 := by
  rw [sizeI]; split
  · rename_i hw; exact layI_len h hw
  · omega
theorem fNSize : FnOk Tryz.prog 60 := ⟨_, Tryz.func60, by decide, rfl⟩
theorem pNSize : PSound Tryz.prog 60 sNSize := by
  refine psound (T := tab) (S := (spOf [(115, iContent), (26, sLSize.spec (lsOf [])), (123, sISize.spec (lsOf []))])) (keep := k60) (by kernel_rfl) tabOk (spCons (.inl ⟨pContent, fContent⟩) (spCons (pOk pLSize fLSize (by decide) lsNil) (spCons (pOk pISize fISize (by decide) lsNil) spNil))) (by kernel_rfl) Tryz.func60 (by kernel_rfl) (by decide) fun xs hg hp => ?_
  obtain ⟨⟨d, l, ps, ks, bs⟩, ⟨⟩⟩ := xs
  clear hg
  change Int at d
  change List Stk at l
  change List (List UInt8) at ps
  change List Int at ks
  change List (List Msg) at bs
  change NPre (d, l, ps, ks, bs) at hp
  have hpl := hp.l
  have hpi := hp.i
  have hpp := hpi.p
  have hpk := hpi.k
  have hpb := hpi.b
  dsimp only at hpl hpi hpp hpk hpb
  have hs1 := sizeF_nn l hpl
  have hs2 := sizeI_nn hpi
  show vfun tab _ k60 Tryz.f60 [.agg [.i .i64 d, .sl StT l, .sl .str ps, .sl (.int .i64) ks, .sl (.slice MsgT) bs]] [] _
  refine Ev.out ?_
  repeat' (first | ((with_reducible refine Ev.mk ?_); conv => whnf) | (with_reducible refine And.intro ?_ ?_) | (intro h))
  all_goals (try simp only [decide_eq_true_eq, decide_eq_false_iff_not, beq_iff_eq, bne_iff_ne, beq_eq_false_iff_ne, bne_eq_false_iff_eq, Int.toNat_natCast, ge_iff_le, gt_iff_lt, Bool.not_eq_true', Bool.not_eq_false', Int.not_lt, Int.not_le, ne_eq] at *)
  all_goals (try dsimp only [Ty.den, Ty.dflt, NdT, SsT, sLSize, sISize] at *)
  all_goals (try simp only [eq4, ne4, eq3, ne3, eq2, ne2, Prod.eta, List.length_cons, List.length_nil, List.length_append, Nat.zero_add] at *)
  all_goals (try simp (disch := omega) only [wrap64] at *)
  all_goals try first | exact leafDraw (by kernel_rfl) | exact Leaf.mk trivial | (refine Leaf.mk ?_; omega) | (refine Leaf.mk ?_; unfold maxLen; omega)
  all_goals first
    | exact Leaf.mk hpl
    | exact Leaf.mk hpi
    | (refine Leaf.mk (ret1 (show (1 : Int) + (sizeF l : Nat) = sizeN (d, l, ps, ks, bs) from ?_)); rw [sizeN, if_pos h])
    | (refine Leaf.mk (ret1 (show (1 : Int) + (sizeI (ps, ks, bs) : Nat) = sizeN (d, l, ps, ks, bs) from ?_)); rw [sizeN, if_neg h])
    | skip
theorem fNSizeR : FnOk Tryz.prog 61 := ⟨_, Tryz.func61, by decide, rfl⟩
theorem pNSizeR : PSound Tryz.prog 61 sNSizeR := by
  refine psound (T := tab) (S := (spOf [(27, sSizeR.spec (lsOf [])), (124, sISizeR.spec (lsOf []))])) (keep := k61) (by kernel_rfl) tabOk (spCons (pOk pSizeR fSizeR (by decide) lsNil) (spCons (pOk pISizeR fISizeR (by decide) lsNil) spNil)) (by kernel_rfl) Tryz.func61 (by kernel_rfl) (by decide) fun xs hg hp => ?_
  obtain ⟨⟨d, l, ps, ks, bs⟩, ⟨⟩⟩ := xs
  clear hg
  change Int at d
  change List Stk at l
  change List (List UInt8) at ps
  change List Int at ks
  change List (List Msg) at bs
  change NPre (d, l, ps, ks, bs) at hp
  have hpl := hp.l
  have hpi := hp.i
  have hpp := hpi.p
  have hpk := hpi.k
  have hpb := hpi.b
  dsimp only at hpl hpi hpp hpk hpb
  have hs1 := sizeF_nn l hpl
  have hs2 := sizeI_nn hpi
  show vfun tab _ k61 Tryz.f61 [.agg [.i .i64 d, .sl StT l, .sl .str ps, .sl (.int .i64) ks, .sl (.slice MsgT) bs]] [] _
  refine Ev.out ?_
  repeat' (first | ((with_reducible refine Ev.mk ?_); conv => whnf) | (with_reducible refine And.intro ?_ ?_) | (intro h))
  all_goals (try simp only [decide_eq_true_eq, decide_eq_false_iff_not, beq_iff_eq, bne_iff_ne, beq_eq_false_iff_ne, bne_eq_false_iff_eq, Int.toNat_natCast, ge_iff_le, gt_iff_lt, Bool.not_eq_true', Bool.not_eq_false', Int.not_lt, Int.not_le, ne_eq] at *)
  all_goals (try dsimp only [Ty.den, Ty.dflt, NdT, SsT, sSizeR, sISizeR, sISize] at *)
  all_goals (try simp only [eq4, ne4, eq3, ne3, eq2, ne2, Prod.eta, List.length_cons, List.length_nil, List.length_append, Nat.zero_add] at *)
  all_goals (try simp (disch := omega) only [wrap64] at *)
  all_goals try first | exact leafDraw (by kernel_rfl) | exact Leaf.mk trivial | (refine Leaf.mk ?_; omega) | (refine Leaf.mk ?_; unfold maxLen; omega)
  all_goals first
    | exact Leaf.mk hpl
    | exact Leaf.mk hpi
    | (refine Leaf.mk (ret1 (show (1 : Int) + (sizeF l : Nat) = sizeN (d, l, ps, ks, bs) from ?_)); rw [sizeN, if_pos h])
    | (refine Leaf.mk (ret1 (show (1 : Int) + (sizeI (ps, ks, bs) : Nat) = sizeN (d, l, ps, ks, bs) from ?_)); rw [sizeN, if_neg h])
    | skip
theorem checkN_rng {n : Nod} (h : n.1 < 0 ∨ 40 < n.1) : checkN n = 9 := by rw [checkN, if_pos h]
theorem checkN_form {n : Nod} (h : ¬ (n.1 < 0 ∨ 40 < n.1)) (h1 : emptyN n = false) : checkN n = 4 := by rw [checkN, if_neg h, if_neg (by rw [h1]; simp)]
theorem checkN_in {n : Nod} (h : ¬ (n.1 < 0 ∨ 40 < n.1)) (h1 : emptyN n = true) (h2 : ¬ insideN n = 0) : checkN n = insideN n := by rw [checkN, if_neg h, if_pos h1, if_neg h2]
theorem checkN_big {n : Nod} (h : ¬ (n.1 < 0 ∨ 40 < n.1)) (h1 : emptyN n = true) (h2 : insideN n = 0) : checkN n = if 1016 < sizeN n then 5 else 0 := by rw [checkN, if_neg h, if_pos h1, if_pos h2]
theorem fNCheck : FnOk Tryz.prog 58 := ⟨_, Tryz.func58, by decide, rfl⟩
theorem pNCheck : PSound Tryz.prog 58 sNCheck := by
  refine psound (T := tab) (S := (spOf [(120, sEmptyN.spec (lsOf [])), (121, sInsideN.spec (lsOf [])), (60, sNSize.spec (lsOf []))])) (keep := k58) (by kernel_rfl) tabOk (spCons (pOk pEmptyN fEmptyN (by decide) lsNil) (spCons (pOk pInsideN fInsideN (by decide) lsNil) (spCons (pOk pNSize fNSize (by decide) lsNil) spNil))) (by kernel_rfl) Tryz.func58 (by kernel_rfl) (by decide) fun xs hg hp => ?_
  obtain ⟨⟨d, l, ps, ks, bs⟩, ⟨⟩⟩ := xs
  clear hg
  change Int at d
  change List Stk at l
  change List (List UInt8) at ps
  change List Int at ks
  change List (List Msg) at bs
  change NPre (d, l, ps, ks, bs) at hp
  have hpl := hp.l
  have hpi := hp.i
  have hpp := hpi.p
  have hpk := hpi.k
  have hpb := hpi.b
  dsimp only at hpl hpi hpp hpk hpb
  show vfun tab _ k58 Tryz.f58 [.agg [.i .i64 d, .sl StT l, .sl .str ps, .sl (.int .i64) ks, .sl (.slice MsgT) bs]] [] _
  refine Ev.out ?_
  repeat' (first | ((with_reducible refine Ev.mk ?_); conv => whnf) | (with_reducible refine And.intro ?_ ?_) | (intro h))
  all_goals (try simp only [decide_eq_true_eq, decide_eq_false_iff_not, beq_iff_eq, bne_iff_ne, beq_eq_false_iff_ne, bne_eq_false_iff_eq, Int.toNat_natCast, ge_iff_le, gt_iff_lt, Bool.not_eq_true', Bool.not_eq_false', Int.not_lt, Int.not_le, ne_eq] at *)
  all_goals (try dsimp only [Ty.den, Ty.dflt, NdT, SsT, sEmptyN, sInsideN, sNSize] at *)
  all_goals (try simp only [eq4, ne4, eq3, ne3, eq2, ne2, Prod.eta, List.length_cons, List.length_nil, List.length_append, Nat.zero_add] at *)
  all_goals (try simp (disch := omega) only [wrap64] at *)
  all_goals try first | exact leafDraw (by kernel_rfl) | exact Leaf.mk trivial | (refine Leaf.mk ?_; omega) | (refine Leaf.mk ?_; unfold maxLen; omega)
  all_goals try exact Leaf.mk hp
  · exact Leaf.mk (ret1 (checkN_rng (n := (d, l, ps, ks, bs)) (.inl h)).symm)
  · exact Leaf.mk (ret1 (checkN_rng (n := (d, l, ps, ks, bs)) (.inr ‹40 < d›)).symm)
  all_goals have hr : ¬ (d < 0 ∨ 40 < d) := by omega
  all_goals first
    | exact Leaf.mk (ret1 (checkN_form (n := (d, l, ps, ks, bs)) hr ‹_›).symm)
    | exact Leaf.mk (ret1 (checkN_in (n := (d, l, ps, ks, bs)) hr ‹_› ‹_›).symm)
    | (refine Leaf.mk (ret1 (show (5 : Int) = checkN (d, l, ps, ks, bs) from ?_)); rw [checkN_big (n := (d, l, ps, ks, bs)) hr ‹_› ‹_›, if_pos ‹_›])
    | (refine Leaf.mk (ret1 (show (0 : Int) = checkN (d, l, ps, ks, bs) from ?_)); rw [checkN_big (n := (d, l, ps, ks, bs)) hr ‹_› ‹_›, if_neg (by omega)])
    | skip
theorem fNCheckR : FnOk Tryz.prog 59 := ⟨_, Tryz.func59, by decide, rfl⟩
theorem pNCheckR : PSound Tryz.prog 59 sNCheckR := by
  refine psound (T := tab) (S := (spOf [(25, sLCheckR.spec (lsOf [])), (122, sICheckR.spec (lsOf [])), (61, sNSizeR.spec (lsOf []))])) (keep := k59) (by kernel_rfl) tabOk (spCons (pOk pLCheckR fLCheckR (by decide) lsNil) (spCons (pOk pICheckR fICheckR (by decide) lsNil) (spCons (pOk pNSizeR fNSizeR (by decide) lsNil) spNil))) (by kernel_rfl) Tryz.func59 (by kernel_rfl) (by decide) fun xs hg hp => ?_
  obtain ⟨⟨d, l, ps, ks, bs⟩, ⟨⟩⟩ := xs
  clear hg
  change Int at d
  change List Stk at l
  change List (List UInt8) at ps
  change List Int at ks
  change List (List Msg) at bs
  change NPre (d, l, ps, ks, bs) at hp
  have hpl := hp.l
  have hpi := hp.i
  have hpp := hpi.p
  have hpk := hpi.k
  have hpb := hpi.b
  dsimp only at hpl hpi hpp hpk hpb
  show vfun tab _ k59 Tryz.f59 [.agg [.i .i64 d, .sl StT l, .sl .str ps, .sl (.int .i64) ks, .sl (.slice MsgT) bs]] [] _
  refine Ev.out ?_
  repeat' (first | ((with_reducible refine Ev.mk ?_); conv => whnf) | (with_reducible refine And.intro ?_ ?_) | (intro h))
  all_goals (try simp only [decide_eq_true_eq, decide_eq_false_iff_not, beq_iff_eq, bne_iff_ne, beq_eq_false_iff_ne, bne_eq_false_iff_eq, Int.toNat_natCast, ge_iff_le, gt_iff_lt, Bool.not_eq_true', Bool.not_eq_false', Int.not_lt, Int.not_le, ne_eq] at *)
  all_goals (try dsimp only [Ty.den, Ty.dflt, NdT, SsT, sLCheckR, sICheckR, sICheck, sNSizeR, sNSize] at *)
  all_goals (try simp only [eq4, ne4, eq3, ne3, eq2, ne2, Prod.eta, List.length_cons, List.length_nil, List.length_append, Nat.zero_add] at *)
  all_goals (try simp (disch := omega) only [wrap64] at *)
  all_goals try first | exact leafDraw (by kernel_rfl) | exact Leaf.mk trivial | (refine Leaf.mk ?_; omega) | (refine Leaf.mk ?_; unfold maxLen; omega)
  all_goals try exact Leaf.mk hp
  · exact Leaf.mk (ret1 (checkN_rng (n := (d, l, ps, ks, bs)) (.inl h)).symm)
  · exact Leaf.mk (ret1 (checkN_rng (n := (d, l, ps, ks, bs)) (.inr ‹40 < d›)).symm)
  all_goals
    have hr : ¬ (d < 0 ∨ 40 < d) := by omega
    have hef := checkN_form (n := (d, l, ps, ks, bs)) hr
    have hei := checkN_in (n := (d, l, ps, ks, bs)) hr
    have heb := checkN_big (n := (d, l, ps, ks, bs)) hr
    have hE0 := emptyN_i (n := (d, l, ps, ks, bs))
    have hE1 := emptyN_l (n := (d, l, ps, ks, bs))
    have hI0 : d = 0 → insideN (d, l, ps, ks, bs) = checkL l := fun h => by rw [insideN, if_pos h]
    have hI1 : ¬ d = 0 → insideN (d, l, ps, ks, bs) = checkI (ps, ks, bs) := fun h => by rw [insideN, if_neg h]
    dsimp only at hE0 hE1
  · exact Leaf.mk (ret1 (hef (by rw [hE0 (by omega), decide_eq_false_iff_not]; omega)).symm)
  · have hy : emptyN (d, l, ps, ks, bs) = true := by rw [hE0 (by omega), decide_eq_true_iff]; omega
    refine Leaf.mk (ret1 (show (5 : Int) = checkN (d, l, ps, ks, bs) from ?_))
    rw [heb hy (by rw [hI0 (by omega)]; assumption), if_pos (by assumption)]
  · have hy : emptyN (d, l, ps, ks, bs) = true := by rw [hE0 (by omega), decide_eq_true_iff]; omega
    refine Leaf.mk (ret1 (show checkL l = checkN (d, l, ps, ks, bs) from ?_))
    rw [heb hy (by rw [hI0 (by omega)]; assumption), if_neg (by omega)]; assumption
  · have hy : emptyN (d, l, ps, ks, bs) = true := by rw [hE0 (by omega), decide_eq_true_iff]; omega
    refine Leaf.mk (ret1 (show checkL l = checkN (d, l, ps, ks, bs) from ?_))
    rw [hei hy (by rw [hI0 (by omega)]; assumption), hI0 (by omega)]
  · exact Leaf.mk (ret1 (hef (by rw [hE1 (by omega), decide_eq_false_iff_not]; omega)).symm)
  · have hy : emptyN (d, l, ps, ks, bs) = true := by rw [hE1 (by omega), decide_eq_true_iff]; omega
    refine Leaf.mk (ret1 (show (5 : Int) = checkN (d, l, ps, ks, bs) from ?_))
    rw [heb hy (by rw [hI1 (by omega)]; assumption), if_pos (by assumption)]
  · have hy : emptyN (d, l, ps, ks, bs) = true := by rw [hE1 (by omega), decide_eq_true_iff]; omega
    refine Leaf.mk (ret1 (show checkI (ps, ks, bs) = checkN (d, l, ps, ks, bs) from ?_))
    rw [heb hy (by rw [hI1 (by omega)]; assumption), if_neg (by omega)]; assumption
  · have hy : emptyN (d, l, ps, ks, bs) = true := by rw [hE1 (by omega), decide_eq_true_iff]; omega
    refine Leaf.mk (ret1 (show checkI (ps, ks, bs) = checkN (d, l, ps, ks, bs) from ?_))
    rw [hei hy (by rw [hI1 (by omega)]; assumption), hI1 (by omega)]
end Go.Proofs.YtkmfjlfejdoehaaGreat

set_option linter.unusedVariables false
set_option linter.unusedSimpArgs false
set_option maxRecDepth 8000
set_option maxHeartbeats 4000000
namespace Go.Proofs.YtkmfjlfejdoehaaGreat
open Go.Eng
def layN (n : Nod) : List Int := n.1 :: (if n.1 = 0 then layF n.2.1 else layI n.2.2)
def putN (n : Nod) : List Int × Int := if checkN n = 0 then (layN n, 0) else ([], checkN n)
def sNPut : PSpec := ⟨[.d NdT], [⟨false, [.o 5 (.int .u8)]⟩, ⟨false, [.d (.int .i64)]⟩], fun x => NPre x.1, fun x => (((putN x.1).1, ()), ((putN x.1).2, ()), ())⟩
def sNPutR : PSpec := sNPut
structure OkN (n : Nod) : Prop where
  lo : 0 ≤ n.1
  hi : n.1 ≤ 40
  e : emptyN n = true
  i : insideN n = 0
  s : sizeN n ≤ 1016
theorem okN {n : Nod} (h : checkN n = 0) : OkN n := by
  rw [checkN] at h
  split at h
  · exact absurd h (by decide)
  rename_i h1
  split at h
  case isFalse => exact absurd h (by decide)
  rename_i h2
  split at h
  case isFalse h3 => exact absurd h h3
  rename_i h3
  split at h
  · exact absurd h (by decide)
  exact ⟨by omega, by omega, h2, h3, by omega⟩
theorem checkL_sz {l : List Stk} (h : checkL l = 0) : (layF l).length ≤ 1016 := by
  unfold checkL at h
  split at h
  · split at h
    · exact absurd h (by decide)
    · rw [sizeF] at *; omega
  · rename_i h1; exact absurd h h1
theorem OkN.leaf {n : Nod} (h : OkN n) (h0 : n.1 = 0) : checkL n.2.1 = 0 ∧ putL n.2.1 = (layF n.2.1, 0) ∧ (layF n.2.1).length ≤ 1016 := by
  have h1 := h.i
  rw [insideN, if_pos h0] at h1
  exact ⟨h1, by rw [putL, if_pos h1], checkL_sz h1⟩
theorem OkN.inner {n : Nod} (h : OkN n) (h0 : ¬ n.1 = 0) : checkI n.2.2 = 0 ∧ putI n.2.2 = (layI n.2.2, 0) ∧ (layI n.2.2).length ≤ 1016 := by
  have h1 := h.i
  rw [insideN, if_neg h0] at h1
  exact ⟨h1, by rw [putI, if_pos h1], (valI h1).sz⟩
theorem wrap8 {n : Int} (h0 : 0 ≤ n) (h1 : n ≤ 255) : IntKind.u8.wrap n = n := by rw [wrapU8]; omega
theorem fNPut : FnOk Tryz.prog 53 := ⟨_, Tryz.func53, by decide, rfl⟩
theorem pNPut : PSound Tryz.prog 53 sNPut := by
  refine psound (T := tab) (S := (spOf [(58, sNCheck.spec (lsOf [])), (115, iContent), (31, sLPut.spec (lsOf [])), (116, sIPut.spec (lsOf []))])) (keep := k53) (by kernel_rfl) tabOk (spCons (pOk pNCheck fNCheck (by decide) lsNil) (spCons (.inl ⟨pContent, fContent⟩) (spCons (pOk pLPut fLPut (by decide) lsNil) (spCons (pOk pIPut fIPut (by decide) lsNil) spNil)))) (by kernel_rfl) Tryz.func53 (by kernel_rfl) (by decide) fun xs hg hp => ?_
  obtain ⟨⟨d, l, ps, ks, bs⟩, ⟨⟩⟩ := xs
  clear hg
  change Int at d
  change List Stk at l
  change List (List UInt8) at ps
  change List Int at ks
  change List (List Msg) at bs
  change NPre (d, l, ps, ks, bs) at hp
  have hpl := hp.l
  have hpi := hp.i
  have hpp := hpi.p
  have hpk := hpi.k
  have hpb := hpi.b
  dsimp only at hpl hpi hpp hpk hpb
  show vfun tab _ k53 Tryz.f53 [.agg [.i .i64 d, .sl StT l, .sl .str ps, .sl (.int .i64) ks, .sl (.slice MsgT) bs]] [] _
  refine Ev.out ?_
  repeat' (first | ((with_reducible refine Ev.mk ?_); conv => whnf) | (with_reducible refine And.intro ?_ ?_) | (intro h))
  all_goals (try simp only [decide_eq_true_eq, decide_eq_false_iff_not, beq_iff_eq, bne_iff_ne, beq_eq_false_iff_ne, bne_eq_false_iff_eq, Int.toNat_natCast, ge_iff_le, gt_iff_lt, Bool.not_eq_true', Bool.not_eq_false', Int.not_lt, Int.not_le, ne_eq] at *)
  all_goals (try dsimp only [Ty.den, Ty.dflt, NdT, SsT, sNCheck, sLPut, sIPut] at *)
  all_goals (try simp only [eq4, ne4, eq3, ne3, eq2, ne2, Prod.eta, List.length_cons, List.length_nil, List.length_append, Nat.zero_add] at *)
  all_goals (try simp (disch := omega) only [wrap64] at *)
  all_goals try first | exact leafDraw (by kernel_rfl) | exact Leaf.mk trivial | (refine Leaf.mk ?_; omega) | (refine Leaf.mk ?_; unfold maxLen; omega)
  · refine Leaf.mk (retPi (u := ([], checkN (d, l, ps, ks, bs))) (v := putN (d, l, ps, ks, bs)) ?_)
    rw [putN, if_neg ‹_›]
  all_goals
    have hc : checkN (d, l, ps, ks, bs) = 0 := ‹_›
    have ok := okN hc
    have hd0 := ok.lo
    have hd1 := ok.hi
    dsimp only at hd0 hd1
  all_goals try
    have q9 := ok.leaf (show d = 0 by assumption)
    obtain ⟨q1, q2, q3⟩ := q9
    dsimp only at q1 q2 q3
    simp only [q2] at *
  all_goals try
    have q9 := ok.inner (show ¬ d = 0 by assumption)
    obtain ⟨q1, q2, q3⟩ := q9
    dsimp only at q1 q2 q3
    simp only [q2] at *
  all_goals first
    | (refine Leaf.mk ?_; omega)
    | (refine Leaf.mk ?_; unfold maxLen; omega)
    | (refine Leaf.mk (retPi (u := ([IntKind.u8.wrap d] ++ layF l, 0)) (v := putN (d, l, ps, ks, bs)) ?_)
       rw [putN, if_pos hc, layN, if_pos (show d = 0 from ‹_›), wrap8 hd0 (by omega)]; rfl)
    | (refine Leaf.mk (retPi (u := ([IntKind.u8.wrap d] ++ layI (ps, ks, bs), 0)) (v := putN (d, l, ps, ks, bs)) ?_)
       rw [putN, if_pos hc, layN, if_neg (show ¬ d = 0 from ‹_›), wrap8 hd0 (by omega)]; rfl)
    | skip
theorem fNPutR : FnOk Tryz.prog 55 := ⟨_, Tryz.func55, by decide, rfl⟩
theorem pNPutR : PSound Tryz.prog 55 sNPutR := by
  refine psound (T := tab) (S := (spOf [(59, sNCheckR.spec (lsOf [])), (32, sLPutR.spec (lsOf [])), (117, sIPutR.spec (lsOf []))])) (keep := k55) (by kernel_rfl) tabOk (spCons (pOk pNCheckR fNCheckR (by decide) lsNil) (spCons (pOk pLPutR fLPutR (by decide) lsNil) (spCons (pOk pIPutR fIPutR (by decide) lsNil) spNil))) (by kernel_rfl) Tryz.func55 (by kernel_rfl) (by decide) fun xs hg hp => ?_
  obtain ⟨⟨d, l, ps, ks, bs⟩, ⟨⟩⟩ := xs
  clear hg
  change Int at d
  change List Stk at l
  change List (List UInt8) at ps
  change List Int at ks
  change List (List Msg) at bs
  change NPre (d, l, ps, ks, bs) at hp
  have hpl := hp.l
  have hpi := hp.i
  have hpp := hpi.p
  have hpk := hpi.k
  have hpb := hpi.b
  dsimp only at hpl hpi hpp hpk hpb
  show vfun tab _ k55 Tryz.f55 [.agg [.i .i64 d, .sl StT l, .sl .str ps, .sl (.int .i64) ks, .sl (.slice MsgT) bs]] [] _
  refine Ev.out ?_
  repeat' (first | ((with_reducible refine Ev.mk ?_); conv => whnf) | (with_reducible refine And.intro ?_ ?_) | (intro h))
  all_goals (try simp only [decide_eq_true_eq, decide_eq_false_iff_not, beq_iff_eq, bne_iff_ne, beq_eq_false_iff_ne, bne_eq_false_iff_eq, Int.toNat_natCast, ge_iff_le, gt_iff_lt, Bool.not_eq_true', Bool.not_eq_false', Int.not_lt, Int.not_le, ne_eq] at *)
  all_goals (try dsimp only [Ty.den, Ty.dflt, NdT, SsT, sNCheckR, sNCheck, sLPutR, sIPutR, sIPut] at *)
  all_goals (try simp only [eq4, ne4, eq3, ne3, eq2, ne2, Prod.eta, List.length_cons, List.length_nil, List.length_append, Nat.zero_add] at *)
  all_goals (try simp (disch := omega) only [wrap64] at *)
  all_goals try first | exact leafDraw (by kernel_rfl) | exact Leaf.mk trivial | (refine Leaf.mk ?_; omega) | (refine Leaf.mk ?_; unfold maxLen; omega)
  · refine Leaf.mk (retPi (u := ([], checkN (d, l, ps, ks, bs))) (v := putN (d, l, ps, ks, bs)) ?_)
    rw [putN, if_neg ‹_›]
  all_goals
    have hc : checkN (d, l, ps, ks, bs) = 0 := ‹_›
    have ok := okN hc
    have hd0 := ok.lo
    have hd1 := ok.hi
    dsimp only at hd0 hd1
  all_goals try
    have q9 := ok.leaf (show d = 0 by assumption)
    obtain ⟨q1, q2, q3⟩ := q9
    dsimp only at q1 q2 q3
    simp only [q2] at *
  all_goals try
    have q9 := ok.inner (show ¬ d = 0 by assumption)
    obtain ⟨q1, q2, q3⟩ := q9
    dsimp only at q1 q2 q3
    simp only [q2] at *
  all_goals first
    | (refine Leaf.mk ?_; omega)
    | (refine Leaf.mk ?_; unfold maxLen; omega)
    | (refine Leaf.mk (retPi (u := ([IntKind.u8.wrap d] ++ layF l, 0)) (v := putN (d, l, ps, ks, bs)) ?_)
       rw [putN, if_pos hc, layN, if_pos (show d = 0 from ‹_›), wrap8 hd0 (by omega)]; rfl)
    | (refine Leaf.mk (retPi (u := ([IntKind.u8.wrap d] ++ layI (ps, ks, bs), 0)) (v := putN (d, l, ps, ks, bs)) ?_)
       rw [putN, if_pos hc, layN, if_neg (show ¬ d = 0 from ‹_›), wrap8 hd0 (by omega)]; rfl)
    | skip
end Go.Proofs.YtkmfjlfejdoehaaGreat

set_option linter.unusedVariables false
set_option linter.unusedSimpArgs false
set_option maxRecDepth 8000
set_option maxHeartbeats 4000000
namespace Go.Proofs.YtkmfjlfejdoehaaGreat
open Go.Eng
def readN (k : Int) (q : List Int) : Nod := if k = 0 then (0, (getL q).1, inn0) else (k, [], (getI q).1)
def errN (k : Int) (q : List Int) : Int := if k = 0 then (getL q).2 else (getI q).2
def getN : List Int → Nod × Int
  | [] => (nod0, 4)
  | k :: q => if errN k q = 0 ∧ checkN (readN k q) = 0 then (readN k q, 0) else (nod0, 4)
theorem getL_cases (b : List Int) : (getL b = ([], 4)) ∨ (checkL (getL b).1 = 0 ∧ layF (getL b).1 = b ∧ (getL b).2 = 0) := by
  rw [getL]; split
  · rename_i h; exact .inr ⟨h.1, h.2, rfl⟩
  · exact .inl rfl
theorem getI_cases (b : List Int) : (getI b = (inn0, 4)) ∨ (checkI (getI b).1 = 0 ∧ nnI (getI b).1 ∧ layI (getI b).1 = b ∧ (getI b).2 = 0) := by
  rw [getI]; split
  · rename_i h; exact .inr ⟨h.1, h.2.1, h.2.2, rfl⟩
  · exact .inl rfl
theorem checkI_0 : checkI inn0 = 4 := checkI_form (.inl rfl)
theorem checkL_0 : checkL [] = 0 := by decide +kernel
theorem readN_lay {k : Int} {q : List Int} (h : checkN (readN k q) = 0) : layN (readN k q) = k :: q ↔ errN k q = 0 := by
  have ok := okN h
  rw [layN, errN]
  by_cases h0 : k = 0
  · subst h0
    rw [readN, if_pos rfl, if_pos rfl]
    dsimp only
    rw [if_pos rfl]
    rcases getL_cases q with h1 | ⟨h1, h2, h3⟩
    · rw [h1]
      constructor
      · intro hc
        have hq : layF [] = q := (List.cons.inj hc).2
        rw [getL_put checkL_0 hq] at h1
        exact absurd (congrArg (·.2) h1) (by decide)
      · intro hc; exact absurd hc (by decide)
    · rw [h2, h3]; simp
  · rw [readN, if_neg h0, if_neg h0]
    dsimp only
    rw [if_neg h0]
    rcases getI_cases q with h1 | ⟨h1, h2, h3, h4⟩
    · exfalso
      have := (ok.inner (by rw [readN, if_neg h0]; exact h0)).1
      rw [readN, if_neg h0] at this
      dsimp only at this
      rw [h1, checkI_0] at this
      exact absurd this (by decide)
    · rw [h3, h4]; simp
theorem isB_layN {n : Nod} (h : checkN n = 0) (hn : nnI n.2.2) : isB (layN n) := by
  have ok := okN h
  intro x hx
  rw [layN] at hx
  rcases List.mem_cons.1 hx with rfl | hx
  · have := ok.lo; have := ok.hi; omega
  · split at hx
    · exact isB_layF _ x hx
    · rename_i h0; exact isB_layI (valI (ok.inner h0).1).w1 hn x hx
theorem readN_nn (k : Int) (q : List Int) : nnI (readN k q).2.2 := by
  rw [readN]; split
  · intro l hl; simp at hl
  · dsimp only
    rcases getI_cases q with h1 | ⟨h1, h2, h3, h4⟩
    · rw [h1]; intro l hl; simp at hl
    · exact h2
theorem getN_str {k : Int} {q : List Int} (hB : isB (k :: q)) : getN (k :: q) = if (putN (readN k q)).2 = 0 ∧ strOfBytes (putN (readN k q)).1 = strOfBytes (k :: q) then (readN k q, 0) else (nod0, 4) := by
  rw [getN]
  by_cases hc : checkN (readN k q) = 0
  · have hp : putN (readN k q) = (layN (readN k q), 0) := by rw [putN, if_pos hc]
    have hs : strOfBytes (layN (readN k q)) = strOfBytes (k :: q) ↔ errN k q = 0 := by
      rw [← readN_lay hc]
      exact ⟨str_inj (isB_layN hc (readN_nn k q)) hB, fun h => by rw [h]⟩
    rw [hp]
    dsimp only
    by_cases he : errN k q = 0
    · rw [if_pos ⟨he, hc⟩, if_pos ⟨rfl, hs.2 he⟩]
    · rw [if_neg (fun h => he h.1), if_neg (fun h => he (hs.1 h.2))]
  · have hp : ¬ (putN (readN k q)).2 = 0 := by rw [putN, if_neg hc]; exact hc
    rw [if_neg (fun h => hc h.2), if_neg (fun h => hp h.1)]
theorem getN_no {k : Int} {q : List Int} (h : errN k q = 0 → ¬ checkN (readN k q) = 0) : getN (k :: q) = (nod0, 4) := by rw [getN, if_neg fun hc => h hc.1 hc.2]
theorem getN_yes {k : Int} {q : List Int} (h : errN k q = 0) (h1 : checkN (readN k q) = 0) : getN (k :: q) = (readN k q, 0) := by rw [getN, if_pos ⟨h, h1⟩]
theorem getI_pre (b : List Int) : IPre (getI b).1 := by
  rcases getI_cases b with h1 | ⟨h1, h2, h3, h4⟩
  · rw [h1]; exact ⟨by simp, fun p hp => by simp at hp, by simp, by simp, by simp⟩
  · have v := valI h1
    have := v.k6
    have := v.w1
    have := v.w2
    have h5 := kfrom_ge v.w1 v.ms
    have h6 := v.sz
    rw [layI_eq v.w1, List.length_append, List.length_append] at h6
    exact ⟨by omega, fun p hp => by have := v.ps p hp; omega, by omega, by omega, by omega⟩
theorem layF_ge (l : List Stk) : l.length ≤ (layF l).length := by
  have := len_sum l
  rw [sumN] at this
  rw [layF, List.length_append]; omega
theorem readN_pre (k : Int) (q : List Int) : NPre (readN k q) := by
  rw [readN]; split
  · refine ⟨?_, ⟨by simp, fun p hp => by simp at hp, by simp, by simp, by simp⟩⟩
    dsimp only
    rcases getL_cases q with h1 | ⟨h1, h2, h3⟩
    · rw [h1]; simp
    · have := layF_ge (getL q).1
      have := checkL_sz h1
      omega
  · exact ⟨by simp, getI_pre q⟩
def sNGet : PSpec := ⟨[.d BT], [⟨true, [.d NdT]⟩, ⟨false, [.d (.int .i64)]⟩], fun x => List.length (α := Int) x.1 ≤ 5000, fun x => (((getN x.1).1, ()), ((getN x.1).2, ()), ())⟩
def sNGetR : PSpec := sNGet
theorem retGn {u v : Nod × Int} (h : u = v) : (some ((u.1, ()), (u.2, ()), ()) : Option ((Nod × Unit) × (Int × Unit) × Unit)) = some ((v.1, ()), (v.2, ()), ()) := by rw [h]
theorem fNGet : FnOk Tryz.prog 56 := ⟨_, Tryz.func56, by decide, rfl⟩
theorem pNGet : PSound Tryz.prog 56 sNGet := by
  refine psound (T := tab) (S := (spOf [(33, sLGet.spec (lsOf [])), (118, sIGet.spec (lsOf [])), (58, sNCheck.spec (lsOf []))])) (keep := k56) (by kernel_rfl) tabOk (spCons (pOk pLGet fLGet (by decide) lsNil) (spCons (pOk pIGet fIGet (by decide) lsNil) (spCons (pOk pNCheck fNCheck (by decide) lsNil) spNil))) (by kernel_rfl) Tryz.func56 (by kernel_rfl) (by decide) fun xs hg hp => ?_
  obtain ⟨b, ⟨⟩⟩ := xs
  obtain ⟨⟨-, hx⟩, -⟩ := hg
  change List Int at b
  change b.length ≤ 5000 at hp
  have hB : isB b := isB_good hx
  clear hx
  show vfun tab _ k56 Tryz.f56 [.sl (.int .u8) b] [] _
  refine Ev.out ?_
  repeat' (first | ((with_reducible refine Ev.mk ?_); conv => whnf) | (with_reducible refine And.intro ?_ ?_) | (intro h))
  all_goals (try simp only [decide_eq_true_eq, decide_eq_false_iff_not, beq_iff_eq, bne_iff_ne, beq_eq_false_iff_ne, bne_eq_false_iff_eq, Int.toNat_natCast, ge_iff_le, gt_iff_lt, Bool.not_eq_true', Bool.not_eq_false', Int.not_lt, Int.not_le, ne_eq] at *)
  all_goals (try dsimp only [Ty.den, Ty.dflt, NdT, SsT, InT, sLGet, sIGet, sNCheck] at *)
  all_goals (try simp only [eq4, ne4, eq3, ne3, eq2, ne2, Prod.eta, List.length_cons, List.length_nil, List.length_append, Nat.zero_add] at *)
  all_goals (try simp (disch := omega) only [wrap64] at *)
  all_goals try first | exact leafDraw (by kernel_rfl) | exact Leaf.mk trivial | (refine Leaf.mk ?_; omega) | (refine Leaf.mk ?_; unfold maxLen; omega)
  · obtain rfl : b = [] := List.eq_nil_of_length_eq_zero (by omega)
    exact Leaf.mk rfl
  all_goals
    obtain ⟨k, q, rfl⟩ : ∃ k q, b = k :: q := by
      cases b with
      | nil => simp at *
      | cons k q => exact ⟨k, q, rfl⟩
    have hk := hB k List.mem_cons_self
    have e1 : IntKind.i64.wrap ((k :: q).getD (Int.toNat 0) 0) = k := wrap64 (n := k) (by omega)
    have e2 : List.drop (Int.toNat 1) (List.take (k :: q).length (k :: q)) = q := by simp
    have hql : q.length + 1 ≤ 5000 := hp
    have hnp := readN_pre k q
    simp only [e1, e2] at *
  all_goals try
    have h0 : k = 0 := by assumption
    subst h0
    have hr : readN 0 q = (0, (getL q).1, inn0) := by rw [readN, if_pos rfl]
    have he : errN 0 q = (getL q).2 := by rw [errN, if_pos rfl]
    rw [hr] at hnp
  all_goals try
    have h0 : ¬ k = 0 := by assumption
    have hr : readN k q = (k, [], (getI q).1) := by rw [readN, if_neg h0]
    have he : errN k q = (getI q).2 := by rw [errN, if_neg h0]
    rw [hr] at hnp
  · exact Leaf.mk (show List.length (α := Int) q ≤ 50000 by omega)
  · refine Leaf.mk (retGn (u := (nod0, 4)) (v := getN (0 :: q)) (getN_no (fun h9 _ => ?_)).symm)
    rw [he] at h9; exact ‹¬ (getL q).2 = 0› h9
  · exact Leaf.mk hnp
  · refine Leaf.mk (retGn (u := (nod0, 4)) (v := getN (0 :: q)) (getN_no (fun _ h9 => ?_)).symm)
    rw [hr] at h9; exact ‹¬ checkN _ = 0› h9
  · refine Leaf.mk (retGn (u := ((0, (getL q).1, inn0), 0)) (v := getN (0 :: q)) ?_)
    rw [getN_yes (he.trans ‹(getL q).2 = 0›) (by rw [hr]; assumption), hr]
  · exact Leaf.mk (show List.length (α := Int) q ≤ 5000 by omega)
  · refine Leaf.mk (retGn (u := (nod0, 4)) (v := getN (k :: q)) (getN_no (fun h9 _ => ?_)).symm)
    rw [he] at h9; exact ‹¬ (getI q).2 = 0› h9
  · exact Leaf.mk hnp
  · refine Leaf.mk (retGn (u := (nod0, 4)) (v := getN (k :: q)) (getN_no (fun _ h9 => ?_)).symm)
    rw [hr] at h9; exact ‹¬ checkN _ = 0› h9
  · refine Leaf.mk (retGn (u := ((k, [], (getI q).1), 0)) (v := getN (k :: q)) ?_)
    rw [getN_yes (he.trans ‹(getI q).2 = 0›) (by rw [hr]; assumption), hr]
theorem fNGetR : FnOk Tryz.prog 57 := ⟨_, Tryz.func57, by decide, rfl⟩
theorem pNGetR : PSound Tryz.prog 57 sNGetR := by
  refine psound (T := tab) (S := (spOf [(34, sLGetR.spec (lsOf [])), (119, sIGetR.spec (lsOf [])), (55, sNPutR.spec (lsOf []))])) (keep := k57) (by kernel_rfl) tabOk (spCons (pOk pLGetR fLGetR (by decide) lsNil) (spCons (pOk pIGetR fIGetR (by decide) lsNil) (spCons (pOk pNPutR fNPutR (by decide) lsNil) spNil))) (by kernel_rfl) Tryz.func57 (by kernel_rfl) (by decide) fun xs hg hp => ?_
  obtain ⟨b, ⟨⟩⟩ := xs
  obtain ⟨⟨-, hx⟩, -⟩ := hg
  change List Int at b
  change b.length ≤ 5000 at hp
  have hB : isB b := isB_good hx
  clear hx
  show vfun tab _ k57 Tryz.f57 [.sl (.int .u8) b] [] _
  refine Ev.out ?_
  repeat' (first | ((with_reducible refine Ev.mk ?_); conv => whnf) | (with_reducible refine And.intro ?_ ?_) | (intro h))
  all_goals (try simp only [decide_eq_true_eq, decide_eq_false_iff_not, beq_iff_eq, bne_iff_ne, beq_eq_false_iff_ne, bne_eq_false_iff_eq, Int.toNat_natCast, ge_iff_le, gt_iff_lt, Bool.not_eq_true', Bool.not_eq_false', Int.not_lt, Int.not_le, ne_eq] at *)
  all_goals (try dsimp only [Ty.den, Ty.dflt, NdT, SsT, InT, sLGetR, sIGetR, sIGet, sNPutR, sNPut] at *)
  all_goals (try simp only [eq4, ne4, eq3, ne3, eq2, ne2, Prod.eta, List.length_cons, List.length_nil, List.length_append, Nat.zero_add] at *)
  all_goals (try simp (disch := omega) only [wrap64] at *)
  all_goals try first | exact leafDraw (by kernel_rfl) | exact Leaf.mk trivial | (refine Leaf.mk ?_; omega) | (refine Leaf.mk ?_; unfold maxLen; omega)
  · obtain rfl : b = [] := List.eq_nil_of_length_eq_zero (by omega)
    exact Leaf.mk rfl
  all_goals
    obtain ⟨k, q, rfl⟩ : ∃ k q, b = k :: q := by
      cases b with
      | nil => simp at *
      | cons k q => exact ⟨k, q, rfl⟩
    have hk := hB k List.mem_cons_self
    have e1 : IntKind.i64.wrap ((k :: q).getD (Int.toNat 0) 0) = k := wrap64 (n := k) (by omega)
    have e2 : List.drop (Int.toNat 1) (List.take (k :: q).length (k :: q)) = q := by simp
    have hql : q.length + 1 ≤ 5000 := hp
    have hnp := readN_pre k q
    have hgs := getN_str hB
    simp only [e1, e2] at *
  all_goals try
    have h0 : k = 0 := by assumption
    subst h0
    have hr : readN 0 q = (0, (getL q).1, inn0) := by rw [readN, if_pos rfl]
    rw [hr] at hnp hgs
  all_goals try
    have h0 : ¬ k = 0 := by assumption
    have hr : readN k q = (k, [], (getI q).1) := by rw [readN, if_neg h0]
    rw [hr] at hnp hgs
  · exact Leaf.mk (show List.length (α := Int) q ≤ 50000 by omega)
  · exact Leaf.mk hnp
  · refine Leaf.mk (retGn (u := (nod0, 4)) (v := getN (0 :: q)) ?_)
    rw [hgs, if_neg (fun h9 => ‹¬ (putN _).2 = 0› h9.1)]
  · refine Leaf.mk (retGn (u := (nod0, 4)) (v := getN (0 :: q)) ?_)
    rw [hgs, if_neg (fun h9 => ‹¬ strOfBytes _ = _› h9.2)]
  · refine Leaf.mk (retGn (u := ((0, (getL q).1, inn0), 0)) (v := getN (0 :: q)) ?_)
    rw [hgs, if_pos ⟨‹(putN _).2 = 0›, ‹strOfBytes _ = _›⟩]
  · exact Leaf.mk (show List.length (α := Int) q ≤ 5000 by omega)
  · exact Leaf.mk hnp
  · refine Leaf.mk (retGn (u := (nod0, 4)) (v := getN (k :: q)) ?_)
    rw [hgs, if_neg (fun h9 => ‹¬ (putN _).2 = 0› h9.1)]
  · refine Leaf.mk (retGn (u := (nod0, 4)) (v := getN (k :: q)) ?_)
    rw [hgs, if_neg (fun h9 => ‹¬ strOfBytes _ = _› h9.2)]
  · refine Leaf.mk (retGn (u := ((k, [], (getI q).1), 0)) (v := getN (k :: q)) ?_)
    rw [hgs, if_pos ⟨‹(putN _).2 = 0›, ‹strOfBytes _ = _›⟩]
end Go.Proofs.YtkmfjlfejdoehaaGreat
