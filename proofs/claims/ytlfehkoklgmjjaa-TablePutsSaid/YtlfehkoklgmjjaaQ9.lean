import Derived.Test.YtlfehkoklgmjjaaQ8
/- Texts, one behind the other. -/
set_option linter.unusedVariables false
set_option linter.unusedSimpArgs false
set_option maxRecDepth 8000
set_option maxHeartbeats 8000000
namespace Go.Proofs.Ytlfehkoklgmjjaa
open Go.Eng
theorem txt_gt : ∀ (n : Nat) (xs acc : List Int) (p : Nat), xs.length ≤ n → (txt xs acc p).2.2 = 0 → ((p + 2 : Nat) : Int) ≤ (txt xs acc p).2.1
  | _, [], acc, p, _, h => by simp [txt] at h
  | 0, _ :: _, _, _, h, _ => by simp at h
  | n + 1, c :: r, acc, p, h, h0 => by
    simp only [List.length_cons] at h
    by_cases hc : c = 0
    · cases r with
      | nil => rw [txt_end hc] at h0; simp at h0
      | cons d t =>
        simp only [List.length_cons] at h
        rw [txt_esc hc] at h0 ⊢
        split
        · exact Int.le_refl _
        · rename_i h1
          rw [if_neg h1] at h0
          split
          · rename_i h2
            rw [if_pos h2] at h0
            have := txt_gt n t (acc ++ [0]) (p + 2) (by omega) h0
            omega
          · rename_i h2
            rw [if_neg h2] at h0; simp at h0
    · rw [txt_ne hc] at h0 ⊢
      have := txt_gt n r (acc ++ [c]) (p + 1) (by omega) h0
      omega
theorem rdText_lt {b : List Int} {m : Int} (h : (rdText b 0 m).2.2 = 0) : (rdText b 0 m).2.1.length + 2 ≤ b.length := by
  unfold rdText at h ⊢
  rw [if_neg (by simp)] at h ⊢
  by_cases h1 : (getText b).2.2 = 0
  · have hb := getText_bd b
    have hg := txt_gt b.length b [] 0 (Nat.le_refl _) h1
    have hg : ((0 + 2 : Nat) : Int) ≤ (getText b).2.1 := hg
    rw [if_neg (by rw [h1]; simp)] at h ⊢
    generalize (if 0 < m then m else 0) = mm at *
    split at h
    · simp at h
    · rename_i h3
      rw [if_neg h3]
      dsimp only
      rw [List.length_drop]; omega
  · rw [if_pos h1] at h
    exact absurd h h1
theorem fGet23R : FnOk Try.prog 39 := ⟨_, Try.func39, by decide, rfl⟩
theorem pGet23R : PSound Try.prog 39 sGet23R := by
  refine psound (T := tab) (S := (spOf [(103, sRSmall.spec (lsOf [])), (104, sRText.spec (lsOf [])), (37, sPut23R.spec (lsOf []))])) (keep := k39) (by kernel_rfl) tabOk (spCons (pOk pRSmall fRSmall (by decide) lsNil) (spCons (pOk pRText fRText (by decide) lsNil) (spCons (pOk pPut23R fPut23R (by decide) lsNil) spNil))) (by kernel_rfl) Try.func39 (by kernel_rfl) (by decide) fun xs hg hp => ?_
  obtain ⟨b, ⟨⟩⟩ := xs
  obtain ⟨⟨-, hx⟩, -⟩ := hg
  change List Int at b
  change b.length ≤ 900 at hp
  have hB : isB b := isB_good hx
  clear hx
  have hb1 := rdSmall_suf b 0
  have hb2 := rdSmall_suf (rdSmall b 0).2.1 (rdSmall b 0).2.2
  have hl1 := suf_len hb1
  have hl2 := suf_len hb2
  show vfun tab _ k39 Try.f39 [.sl (.int .u8) b] [] _
  refine Ev.out ?_
  repeat' (first | ((with_reducible refine Ev.mk ?_); conv => whnf) | (with_reducible refine And.intro ?_ ?_) | (intro h))
  all_goals (try simp only [decide_eq_true_eq, decide_eq_false_iff_not, beq_iff_eq, bne_iff_ne, beq_eq_false_iff_ne, bne_eq_false_iff_eq, Int.toNat_natCast, ge_iff_le, gt_iff_lt, Bool.not_eq_true', Bool.not_eq_false', Int.not_lt, Int.not_le, ne_eq] at *)
  all_goals (try dsimp only [Ty.den, Ty.dflt, TxnT, sRSmall, sRText] at *)
  all_goals (try simp only [eq4, ne4, eq3, ne3, eq2, ne2, Prod.eta, List.length_cons, List.length_nil, List.length_append, Nat.zero_add] at *)
  all_goals (try simp (disch := omega) only [wrap64] at *)
  all_goals try first | exact leafDraw (by kernel_rfl) | exact Leaf.mk trivial | (refine Leaf.mk ?_; omega) | (refine Leaf.mk ?_; unfold maxLen; omega)
  generalize hN : (rdSmall (rdSmall b 0).2.1 (rdSmall b 0).2.2).1 = N
  generalize hnx : (rdSmall b 0).1 = nx
  generalize hb0 : (rdSmall (rdSmall b 0).2.1 (rdSmall b 0).2.2).2.1 = b0 at *
  generalize he0 : (rdSmall (rdSmall b 0).2.1 (rdSmall b 0).2.2).2.2 = e0
  have h0 : ∀ s, check23 s = 0 → putT s = b → nx = s.1 ∧ N = s.2.length ∧ b0 = s.2.flatMap putX ∧ e0 = 0 := fun s hs hb => by
    have ok := check23_ok.1 hs
    have hl := ok.len
    have h1 : rdSmall b 0 = (s.1, putSmall s.2.length ++ s.2.flatMap putX, 0) := by rw [← hb]; exact rdSmall_put ok.next.1 ok.next.2 _
    have h2 := rdSmall_put (n := s.2.length) (by omega) (by omega) (s.2.flatMap putX)
    rw [h1] at hnx hb0 he0 hN
    dsimp only at hnx hb0 he0 hN
    rw [h2] at hb0 he0 hN
    dsimp only at hb0 he0 hN
    exact ⟨hnx.symm, hN.symm, hb0.symm, he0.symm⟩
  refine LoopVC.weak [(.cell 1 1, .nil 139 TxnT)] (fun a : Nat × List Int × Int × List Txn => [(9, .i .i64 a.1)]) (fun a => [(2, .box [.sl (.int .u8) a.2.1, .i .i64 a.2.2.1]), (3, .arr 139 TxnT a.2.2.2)]) (fun a => a.1 ≤ 9 ∧ a.2.1 <:+ b ∧ a.2.2.2.length = a.1 ∧ (∀ x ∈ a.2.2.2, x.2.2.length ≤ 1000) ∧ ∀ s, check23 s = 0 → putT s = b → N = s.2.length ∧ nx = s.1 ∧ a.1 ≤ s.2.length ∧ a.2.1 = (s.2.drop a.1).flatMap putX ∧ a.2.2.1 = 0 ∧ a.2.2.2 = s.2.take a.1) (fun a => 9 - a.1) (0, b0, e0, []) (Ev.mk ?_)
  (conv => whnf)
  refine ⟨Leaf.mk ?_, Leaf.mk ?_, ?_⟩
  · rfl
  · refine ⟨by simp, hb2.trans hb1, rfl, ⟨fun x hx => (by cases hx), fun s hs hb => ?_⟩⟩
    obtain ⟨h1, h2, h3, h4⟩ := h0 s hs hb
    exact ⟨h2, h1, Nat.zero_le _, h3, h4, rfl⟩
  intro ⟨i, rb, re, vs⟩ ⟨hi, hrb, hvl, hvk, hv⟩
  dsimp only at hi hrb hvl hvk hv ⊢
  have hrl := suf_len hrb
  have hs1 := rdSmall_suf rb re
  have hs2 := rdSmall_suf (rdSmall rb re).2.1 (rdSmall rb re).2.2
  have hs1l := suf_len hs1
  have hs2l := suf_len hs2
  have hs3 := rdSmall_suf (rdSmall (rdSmall rb re).2.1 (rdSmall rb re).2.2).2.1 (rdSmall (rdSmall rb re).2.1 (rdSmall rb re).2.2).2.2
  have hs3l := suf_len hs3
  repeat' (first | ((with_reducible refine Ev.mk ?_); conv => whnf) | (with_reducible refine And.intro ?_ ?_) | (intro h))
  all_goals (try simp only [decide_eq_true_eq, decide_eq_false_iff_not, beq_iff_eq, bne_iff_ne, beq_eq_false_iff_ne, bne_eq_false_iff_eq, Int.toNat_natCast, ge_iff_le, gt_iff_lt, Bool.not_eq_true', Bool.not_eq_false', Int.not_lt, Int.not_le, ne_eq] at *)
  all_goals (try dsimp only [Ty.den, Ty.dflt, TxnT, sRText, sRSmall] at *)
  all_goals (try simp only [eq4, ne4, eq3, ne3, eq2, ne2, Prod.eta, List.length_cons, List.length_nil, List.length_append, Nat.zero_add] at *)
  all_goals (try simp (disch := omega) only [wrap64] at *)
  all_goals try first | exact leafDraw (by kernel_rfl) | exact Leaf.mk trivial | (refine Leaf.mk ?_; omega) | (refine Leaf.mk ?_; unfold maxLen; omega)
  rotate_left
  all_goals try exact Leaf.mk (show vs.length ≤ 1000 ∧ ∀ x ∈ vs, x.2.2.length ≤ 1000 from ⟨by omega, hvk⟩)
  all_goals try
    have hsame : ∀ s, check23 s = 0 → putT s = b → (nx, vs) = s := fun s hs hb => by
      obtain ⟨k1, k2, k3, k4, k5, k6⟩ := hv s hs hb
      have hl := (check23_ok.1 hs).len
      have hil : s.2.length ≤ i := by omega
      rw [k6, List.take_of_length_le hil, k2]
    first
    | (have h9 : ¬ (putTF (nx, vs)).2 = 0 := by assumption
       refine Leaf.mk (retGT (u := ((0, []), 4)) (v := getT b) ?_)
       rw [getT_not fun s hs hb => ?_]
       rw [hsame s hs hb, putTF, if_pos hs] at h9
       exact h9 rfl)
    | (have h8 : (putTF (nx, vs)).2 = 0 := by assumption
       have h9 : ¬ strOfBytes (putTF (nx, vs)).1 = strOfBytes b := by assumption
       refine Leaf.mk (retGT (u := ((0, []), 4)) (v := getT b) ?_)
       rw [getT_not fun s hs hb => ?_]
       rw [hsame s hs hb, putTF, if_pos hs, hb] at h9
       exact h9 rfl)
    | (have h8 : (putTF (nx, vs)).2 = 0 := by assumption
       have h9 : strOfBytes (putTF (nx, vs)).1 = strOfBytes b := by assumption
       have hc : check23 (nx, vs) = 0 := by
         by_cases hc : check23 (nx, vs) = 0
         · exact hc
         · rw [putTF, if_neg hc] at h8; exact absurd h8 hc
       rw [putTF, if_pos hc] at h9
       refine Leaf.mk (retGT (u := ((nx, vs), 0)) (v := getT b) ?_)
       rw [getT_put hc (str_inj (isB_T _) hB h9) (by omega)])
  have hgo : ∀ s, check23 s = 0 → putT s = b → i < s.2.length → (rdSmall rb re).1 = (s.2.getD i txn0).1 ∧ (rdSmall (rdSmall rb re).2.1 (rdSmall rb re).2.2).1 = (s.2.getD i txn0).2.1 ∧
      rdSmall (rdSmall (rdSmall rb re).2.1 (rdSmall rb re).2.2).2.1 (rdSmall (rdSmall rb re).2.1 (rdSmall rb re).2.2).2.2 = (((s.2.getD i txn0).2.2.length : Int), (s.2.getD i txn0).2.2.flatMap putText ++ (s.2.drop (i + 1)).flatMap putX, 0) ∧ (s.2.getD i txn0).2.2.length ≤ 900 := fun s hs hb hil => by
    obtain ⟨k1, k2, k3, k4, k5, k6⟩ := hv s hs hb
    have ok := (check23_ok.1 hs).all _ (getD_mem txn0 hil)
    have hkb := keys_in (t := s) (getD_mem txn0 hil)
    rw [hb] at hkb
    have e1 : rb = putSmall (s.2.getD i txn0).1 ++ (putSmall (s.2.getD i txn0).2.1 ++ (putSmall (s.2.getD i txn0).2.2.length ++ ((s.2.getD i txn0).2.2.flatMap putText ++ (s.2.drop (i + 1)).flatMap putX))) := by
      rw [k4, drop_at txn0 hil, List.flatMap_cons, putX]; simp only [List.append_assoc]
    rw [e1, k5, rdSmall_put ok.id.1 ok.id.2]
    dsimp only
    rw [rdSmall_put ok.st.1 ok.st.2]
    dsimp only
    rw [rdSmall_put (n := ((s.2.getD i txn0).2.2.length : Int)) (by omega) (by omega)]
    exact ⟨rfl, rfl, rfl, by omega⟩
  refine LoopVC.weak [(.cell 3 2, .nil 9 .str)] (fun a : Nat × List Int × Int × List (List UInt8) => [(11, .i .i64 a.1)]) (fun a => [(2, .box [.sl (.int .u8) a.2.1, .i .i64 a.2.2.1]), (5, .arr 9 .str a.2.2.2)]) (fun a => a.1 ≤ 901 ∧ (a.2.2.1 = 0 → a.1 + a.2.1.length ≤ 900) ∧ a.2.1 <:+ b ∧ a.2.2.2.length = a.1 ∧ ∀ s, check23 s = 0 → putT s = b → i < s.2.length ∧ a.1 ≤ (s.2.getD i txn0).2.2.length ∧ a.2.1 = ((s.2.getD i txn0).2.2.drop a.1).flatMap putText ++ (s.2.drop (i + 1)).flatMap putX ∧ a.2.2.1 = 0 ∧ a.2.2.2 = (s.2.getD i txn0).2.2.take a.1) (fun a => if a.2.2.1 = 0 then a.2.1.length + 1 else 0) (0, (rdSmall (rdSmall (rdSmall rb re).2.1 (rdSmall rb re).2.2).2.1 (rdSmall (rdSmall rb re).2.1 (rdSmall rb re).2.2).2.2).2.1, (rdSmall (rdSmall (rdSmall rb re).2.1 (rdSmall rb re).2.2).2.1 (rdSmall (rdSmall rb re).2.1 (rdSmall rb re).2.2).2.2).2.2, []) (Ev.mk ?_)
  (conv => whnf)
  refine ⟨Leaf.mk ?_, Leaf.mk ?_, ?_⟩
  · rfl
  · refine ⟨by simp, fun _ => by dsimp only; omega, hs3.trans (hs2.trans (hs1.trans hrb)), rfl, fun s hs hb => ?_⟩
    have hil : i < s.2.length := by have := (hv s hs hb).1; omega
    obtain ⟨m1, m2, m3, m4⟩ := hgo s hs hb hil
    rw [m3]
    exact ⟨hil, Nat.zero_le _, rfl, rfl, rfl⟩
  intro ⟨k, rc, rd, ks⟩ ⟨hk, hkb, hrc, hkl, hkv⟩
  dsimp only at hk hkb hrc hkl hkv ⊢
  have hcl := suf_len hrc
  have ht := rdText_suf rc rd 16
  repeat' (first | ((with_reducible refine Ev.mk ?_); conv => whnf) | (with_reducible refine And.intro ?_ ?_) | (intro h))
  all_goals (try simp only [decide_eq_true_eq, decide_eq_false_iff_not, beq_iff_eq, bne_iff_ne, beq_eq_false_iff_ne, bne_eq_false_iff_eq, Int.toNat_natCast, ge_iff_le, gt_iff_lt, Bool.not_eq_true', Bool.not_eq_false', Int.not_lt, Int.not_le, ne_eq] at *)
  all_goals (try dsimp only [Ty.den, Ty.dflt, TxnT, sRText, sRSmall] at *)
  all_goals (try simp only [eq4, ne4, eq3, ne3, eq2, ne2, Prod.eta, List.length_cons, List.length_nil, List.length_append, Nat.zero_add] at *)
  all_goals (try simp (disch := omega) only [wrap64] at *)
  all_goals try first | exact leafDraw (by kernel_rfl) | exact Leaf.mk trivial | (refine Leaf.mk ?_; omega) | (refine Leaf.mk ?_; unfold maxLen; omega)
  · have hh : ((k : Nat) : Int) < (rdSmall (rdSmall (rdSmall rb re).2.1 (rdSmall rb re).2.2).2.1 (rdSmall (rdSmall rb re).2.1 (rdSmall rb re).2.2).2.2).1 := by assumption
    have hd : rd = 0 := by assumption
    subst hd
    have hkb := hkb rfl
    have hlt := fun h => rdText_lt (b := rc) (m := 16) h
    refine Leaf.mk (Exists.intro (k + 1, (rdText rc 0 16).2.1, (rdText rc 0 16).2.2, ks ++ [(rdText rc 0 16).1]) ⟨rfl, ⟨by dsimp only; omega, fun h => ?_, ht.trans hrc, by simp; omega, fun s hs hb => ?_⟩, ?_⟩)
    · have := hlt h
      dsimp only; omega
    · obtain ⟨k1, k2, k3, k4, k5⟩ := hkv s hs hb
      obtain ⟨m1, m2, m3, m4⟩ := hgo s hs hb k1
      rw [m3] at hh
      dsimp only at hh
      have hkn : k < (s.2.getD i txn0).2.2.length := by omega
      have ok := (check23_ok.1 hs).all _ (getD_mem txn0 k1)
      have e1 : rdText rc 0 16 = ((s.2.getD i txn0).2.2.getD k [], ((s.2.getD i txn0).2.2.drop (k + 1)).flatMap putText ++ (s.2.drop (i + 1)).flatMap putX, 0) := by
        rw [k3, drop_at [] hkn, List.flatMap_cons, List.append_assoc]
        exact rdText_put (by have := ok.keys _ (getD_mem [] hkn); omega) _
      dsimp only
      rw [e1]
      exact ⟨k1, by omega, rfl, rfl, by rw [take_at [] hkn, k5]⟩
    · dsimp only
      rw [if_pos rfl]
      split
      · rename_i h9
        have := hlt h9
        omega
      · omega
  · have hh : ¬ rd = 0 := by assumption
    refine Leaf.mk (Exists.intro (i + 1, rc, rd, vs ++ [((rdSmall rb re).1, (rdSmall (rdSmall rb re).2.1 (rdSmall rb re).2.2).1, ks)]) ⟨rfl, ⟨by dsimp only; omega, hrc, by simp; omega, fun x hx => ?_, fun s hs hb => ?_⟩, by dsimp only; omega⟩)
    · rcases List.mem_append.1 hx with hx | hx
      · exact hvk x hx
      · rw [List.mem_singleton] at hx
        rw [hx]; show ks.length ≤ 1000; omega
    · obtain ⟨k1, k2, k3, k4, k5⟩ := hkv s hs hb
      obtain ⟨q1, q2, q3, q4, q5, q6⟩ := hv s hs hb
      obtain ⟨m1, m2, m3, m4⟩ := hgo s hs hb k1
      have hkn : k = (s.2.getD i txn0).2.2.length := by
        first
        | omega
        | (rw [m3] at hh; dsimp only at hh; omega)
      dsimp only
      refine ⟨q1, q2, by omega, ?_, k4, ?_⟩
      · rw [k3, List.drop_eq_nil_of_le (by omega)]; rfl
      · rw [take_at txn0 k1, q6, m1, m2, k5, List.take_of_length_le (l := (s.2.getD i txn0).2.2) (by omega)]
  · have hh : (rdSmall (rdSmall (rdSmall rb re).2.1 (rdSmall rb re).2.2).2.1 (rdSmall (rdSmall rb re).2.1 (rdSmall rb re).2.2).2.2).1 ≤ ((k : Nat) : Int) := by assumption
    refine Leaf.mk (Exists.intro (i + 1, rc, rd, vs ++ [((rdSmall rb re).1, (rdSmall (rdSmall rb re).2.1 (rdSmall rb re).2.2).1, ks)]) ⟨rfl, ⟨by dsimp only; omega, hrc, by simp; omega, fun x hx => ?_, fun s hs hb => ?_⟩, by dsimp only; omega⟩)
    · rcases List.mem_append.1 hx with hx | hx
      · exact hvk x hx
      · rw [List.mem_singleton] at hx
        rw [hx]; show ks.length ≤ 1000; omega
    · obtain ⟨k1, k2, k3, k4, k5⟩ := hkv s hs hb
      obtain ⟨q1, q2, q3, q4, q5, q6⟩ := hv s hs hb
      obtain ⟨m1, m2, m3, m4⟩ := hgo s hs hb k1
      have hkn : k = (s.2.getD i txn0).2.2.length := by
        first
        | omega
        | (rw [m3] at hh; dsimp only at hh; omega)
      dsimp only
      refine ⟨q1, q2, by omega, ?_, k4, ?_⟩
      · rw [k3, List.drop_eq_nil_of_le (by omega)]; rfl
      · rw [take_at txn0 k1, q6, m1, m2, k5, List.take_of_length_le (l := (s.2.getD i txn0).2.2) (by omega)]
end Go.Proofs.Ytlfehkoklgmjjaa

set_option linter.unusedVariables false
set_option linter.unusedSimpArgs false
set_option maxRecDepth 8000
set_option maxHeartbeats 8000000
namespace Go.Proofs.Ytlfehkoklgmjjaa
open Go.Eng
instance (t : Tabl) : Decidable (okT t) := by unfold okT; infer_instance
def sAwake23 : PSpec := ⟨[], [⟨false, [.d .bool]⟩], fun _ => True, fun _ => ((true, ()), ())⟩
theorem fAwake23 : FnOk Try.prog 34 := ⟨_, Try.func34, by decide, rfl⟩
theorem pAwake23 : PSound Try.prog 34 sAwake23 := by
  refine psound (T := tab) (S := (spOf [(87, sBegin.spec (lsOf [])), (88, sEnd23.spec (lsOf [])), (89, sWrote.spec (lsOf [])), (90, sFind23.spec (lsOf [])), (35, sPut23.spec (lsOf [])), (38, sGet23.spec (lsOf [])), (91, sIDs.spec (lsOf [])), (92, sOldest.spec (lsOf [])), (44, sSame23.spec (lsOf [])), (40, sCheck23.spec (lsOf []))])) (keep := k34) (by kernel_rfl) tabOk (spCons (pOk pBegin fBegin (by decide) lsNil) (spCons (pOk pEnd23 fEnd23 (by decide) lsNil) (spCons (pOk pWrote fWrote (by decide) lsNil) (spCons (pOk pFind23 fFind23 (by decide) lsNil) (spCons (pOk pPut23 fPut23 (by decide) lsNil) (spCons (pOk pGet23 fGet23 (by decide) lsNil) (spCons (pOk pIDs fIDs (by decide) lsNil) (spCons (pOk pOldest fOldest (by decide) lsNil) (spCons (pOk pSame23 fSame23 (by decide) lsNil) (spCons (pOk pCheck23 fCheck23 (by decide) lsNil) spNil)))))))))) (by kernel_rfl) Try.func34 (by kernel_rfl) (by decide) fun xs hg hp => ?_
  obtain ⟨⟩ := xs
  show vfun tab _ k34 Try.f34 [] [] _
  refine Ev.out ?_
  repeat' (first | ((with_reducible refine Ev.mk ?_); conv => whnf) | (with_reducible refine And.intro ?_ ?_) | (intro h; first | exact absurd h (by decide +kernel) | skip))
  all_goals first
    | exact Leaf.mk trivial
    | exact leafDraw (by kernel_rfl)
    | (refine Leaf.mk ?_; change okT _; decide +kernel)
    | (refine Leaf.mk ?_; change (_ : Nat) ≤ _; decide +kernel)
    | (refine Leaf.mk ?_; decide +kernel)
    | exact Leaf.mk rfl
    | skip
theorem light23_ok {t : Tabl} (h : light23 t = true) : okT t := by
  simp only [light23, lightX, Bool.and_eq_true, decide_eq_true_eq, List.all_eq_true] at h
  exact ⟨by omega, fun x hx => by have := (h.2 x hx).1; omega⟩
theorem getT_ok {b : List Int} (hb : b.length ≤ 900) : okT (getT b).1 := by
  unfold getT
  split
  · rename_i h
    have ok := check23_ok.1 h.1
    have hl := ok.len
    refine ⟨by dsimp only; omega, fun x hx => ?_⟩
    have := keys_in hx
    rw [h.2] at this
    omega
  · exact ⟨Nat.zero_le _, fun x hx => (by cases hx)⟩
def sTablePuts : PSpec := lawSpec [TabT, TabT, BT]
theorem pTablePuts : PSound Try.prog 7 sTablePuts := by
  refine psound (T := tab) (S := (spOf [(33, sLight23.spec (lsOf [])), (34, sAwake23.spec (lsOf [])), (35, sPut23.spec (lsOf [])), (37, sPut23R.spec (lsOf [])), (36, sOwnL23.spec (lsOf [])), (43, sBackL23.spec (lsOf [])), (38, sGet23.spec (lsOf [])), (39, sGet23R.spec (lsOf [])), (40, sCheck23.spec (lsOf [])), (41, sCheck23R.spec (lsOf [])), (44, sSame23.spec (lsOf [])), (42, sSame23R.spec (lsOf []))])) (keep := k7) (by kernel_rfl) tabOk (spCons (pOk pLight23 fLight23 (by decide) lsNil) (spCons (pOk pAwake23 fAwake23 (by decide) lsNil) (spCons (pOk pPut23 fPut23 (by decide) lsNil) (spCons (pOk pPut23R fPut23R (by decide) lsNil) (spCons (pOk pOwnL23 fOwnL23 (by decide) lsNil) (spCons (pOk pBackL23 fBackL23 (by decide) lsNil) (spCons (pOk pGet23 fGet23 (by decide) lsNil) (spCons (pOk pGet23R fGet23R (by decide) lsNil) (spCons (pOk pCheck23 fCheck23 (by decide) lsNil) (spCons (pOk pCheck23R fCheck23R (by decide) lsNil) (spCons (pOk pSame23 fSame23 (by decide) lsNil) (spCons (pOk pSame23R fSame23R (by decide) lsNil) spNil)))))))))))) (by kernel_rfl) Try.func7 (by kernel_rfl) (by decide) fun xs hg hp => ?_
  obtain ⟨⟨nx, l⟩, ⟨nx2, l2⟩, b, ⟨⟩⟩ := xs
  change Int at nx nx2
  change List Txn at l l2
  change List Int at b
  clear hp hg
  show vfun tab _ k7 Try.f7 [.agg [.i .i64 nx, .sl TxnT l], .agg [.i .i64 nx2, .sl TxnT l2], .sl (.int .u8) b] [] _
  refine Ev.out ?_
  repeat' (first | ((with_reducible refine Ev.mk ?_); conv => whnf) | (with_reducible refine And.intro ?_ ?_) | (intro h))
  all_goals (try simp only [decide_eq_true_eq, decide_eq_false_iff_not, beq_iff_eq, bne_iff_ne, beq_eq_false_iff_ne, bne_eq_false_iff_eq, Int.toNat_natCast, ge_iff_le, gt_iff_lt, Bool.not_eq_true', Bool.not_eq_false', Int.not_lt, Int.not_le, ne_eq] at *)
  all_goals (try dsimp only [Ty.den, Ty.dflt, TxnT, sLight23] at *)
  all_goals (try simp only [eq4, ne4, eq3, ne3, eq2, ne2, Prod.eta, List.length_cons, List.length_nil, List.length_append, Nat.zero_add] at *)
  all_goals (try simp (disch := omega) only [wrap64] at *)
  all_goals try first | exact leafDraw (by kernel_rfl) | exact Leaf.mk trivial | (refine Leaf.mk ?_; omega) | (refine Leaf.mk ?_; unfold maxLen; omega)
  all_goals first
    | exact Leaf.mk rfl
    | exact Leaf.mk (show okT (nx, l) from light23_ok ‹light23 (nx, l) = true›)
    | exact Leaf.mk (show okT (nx2, l2) from light23_ok ‹light23 (nx2, l2) = true›)
    | exact Leaf.mk (show b.length ≤ 900 by omega)
    | exact Leaf.mk (show okT (getT b).1 from getT_ok (by omega))
    | exact absurd rfl (show ¬ (getT b).2 = (getT b).2 from ‹_›)
    | exact absurd rfl (show ¬ check23 (nx, l) = check23 (nx, l) from ‹_›)
    | exact absurd rfl (show ¬ (putTF (nx, l)).2 = (putTF (nx, l)).2 from ‹_›)
    | exact absurd rfl (show ¬ strOfBytes (putTF (nx, l)).1 = strOfBytes (putTF (nx, l)).1 from ‹_›)
    | exact absurd rfl (show ¬ decide (((nx, l) : Tabl) = (nx2, l2)) = decide (((nx, l) : Tabl) = (nx2, l2)) from ‹_›)
    | (exfalso
       have h9 : decide ((getT b).1 = (getT b).1) = false := by assumption
       simp at h9)
    | skip
end Go.Proofs.Ytlfehkoklgmjjaa
