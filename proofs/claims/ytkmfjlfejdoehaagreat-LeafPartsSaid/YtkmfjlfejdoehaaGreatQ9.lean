import Derived.Test.YtkmfjlfejdoehaaGreatQ8
/- Texts, one behind the other. -/
set_option linter.unusedVariables false
set_option linter.unusedSimpArgs false
set_option maxRecDepth 8000
set_option maxHeartbeats 4000000
namespace Go.Proofs.YtkmfjlfejdoehaaGreat
open Go.Eng
theorem rdSmall_suf (b : List Int) (e : Int) : (rdSmall b e).2.1 <:+ b := by
  unfold rdSmall
  repeat' split
  all_goals first | exact List.suffix_refl _ | exact List.drop_suffix _ _
theorem rdText_suf (b : List Int) (e m : Int) : (rdText b e m).2.1 <:+ b := by
  unfold rdText
  generalize (if 0 < m then m else 0) = mm
  repeat' split
  all_goals first | exact List.suffix_refl _ | exact List.drop_suffix _ _
theorem suf_len {a b : List Int} (h : a <:+ b) : a.length ≤ b.length := h.length_le
def sTake : PSpec := ⟨[.d RdT], [⟨true, [.d RdT]⟩, ⟨true, [.d StT]⟩], fun x => List.length (α := Int) x.1.1 ≤ 100000, fun x => (((takeF x.1.1 x.1.2).1, ()), ((takeF x.1.1 x.1.2).2, ()), ())⟩
theorem takeL_go {f : Nat} {n i : Int} {b : List Int} {e : Int} {acc : List Ver} (h : (i < n ∧ i ≤ 8) ∧ e = 0) {g : Bool × List Int} (hg : (if (rdSmall (rdSmall b e).2.1 (rdSmall b e).2.2).2.2 = 0 ∧ 0 < (rdSmall (rdSmall b e).2.1 (rdSmall b e).2.2).2.1.length then (decide ((rdSmall (rdSmall b e).2.1 (rdSmall b e).2.2).2.1.getD 0 0 = 1), (rdSmall (rdSmall b e).2.1 (rdSmall b e).2.2).2.1.drop 1) else (false, (rdSmall (rdSmall b e).2.1 (rdSmall b e).2.2).2.1)) = g) :
    takeL (f + 1) n i b e acc = takeL f n (i + 1) (rdText g.2 (rdSmall (rdSmall b e).2.1 (rdSmall b e).2.2).2.2 24).2.1 (rdText g.2 (rdSmall (rdSmall b e).2.1 (rdSmall b e).2.2).2.2 24).2.2 (acc ++ [((rdSmall b e).1, (rdSmall (rdSmall b e).2.1 (rdSmall b e).2.2).1, g.1, (rdText g.2 (rdSmall (rdSmall b e).2.1 (rdSmall b e).2.2).2.2 24).1)]) := by
  rw [takeL, if_pos h]
  dsimp only
  rw [hg]
theorem retT {u v : (List Int × Int) × Stk} (h : u = v) : (some ((u.1, ()), (u.2, ()), ()) : Option (((List Int × Int) × Unit) × (Stk × Unit) × Unit)) = some ((v.1, ()), (v.2, ()), ()) := by rw [h]
theorem fTake : FnOk Tryz.prog 165 := ⟨_, Tryz.func165, by decide, rfl⟩
theorem pTake : PSound Tryz.prog 165 sTake := by
  refine psound (T := tab) (S := (spOf [(100, sRSmall.spec (lsOf [])), (177, sRText.spec (lsOf []))])) (keep := k165) (by kernel_rfl) tabOk (spCons (pOk pRSmall fRSmall (by decide) lsNil) (spCons (pOk pRText fRText (by decide) lsNil) spNil)) (by kernel_rfl) Tryz.func165 (by kernel_rfl) (by decide) fun xs hg hp => ?_
  obtain ⟨⟨b, e⟩, ⟨⟩⟩ := xs
  change List Int at b
  change Int at e
  change b.length ≤ 100000 at hp
  clear hg
  have hb1 := suf_len (rdText_suf b e 16)
  have hb2 := suf_len (rdSmall_suf (rdText b e 16).2.1 (rdText b e 16).2.2)
  show vfun tab _ k165 Tryz.f165 [.agg [.sl (.int .u8) b, .i .i64 e]] [] _
  refine Ev.out ?_
  repeat' (first | ((with_reducible refine Ev.mk ?_); conv => whnf) | (with_reducible refine And.intro ?_ ?_) | (intro h))
  all_goals (try simp only [decide_eq_true_eq, decide_eq_false_iff_not, beq_iff_eq, bne_iff_ne, beq_eq_false_iff_ne, bne_eq_false_iff_eq, Int.toNat_natCast, ge_iff_le, gt_iff_lt, Bool.not_eq_true', Bool.not_eq_false', Int.not_lt, Int.not_le, ne_eq] at *)
  all_goals (try dsimp only [Ty.den, Ty.dflt, VerT, sRSmall, sRText] at *)
  all_goals (try simp only [eq4, ne4, eq3, ne3, eq2, ne2, Prod.eta, List.length_cons, List.length_nil, List.length_append, Nat.zero_add] at *)
  all_goals (try simp (disch := omega) only [wrap64] at *)
  all_goals try first | exact leafDraw (by kernel_rfl) | exact Leaf.mk trivial | (refine Leaf.mk ?_; omega) | (refine Leaf.mk ?_; unfold maxLen; omega)
  generalize hn : (rdSmall (rdText b e 16).2.1 (rdText b e 16).2.2).1 = n
  generalize hb0 : (rdSmall (rdText b e 16).2.1 (rdText b e 16).2.2).2.1 = b0 at *
  generalize he0 : (rdSmall (rdText b e 16).2.1 (rdText b e 16).2.2).2.2 = e0
  have hF : takeF b e = (((takeL 10 n 0 b0 e0 []).1, (takeL 10 n 0 b0 e0 []).2.1), ((rdText b e 16).1, (takeL 10 n 0 b0 e0 []).2.2)) := by
    unfold takeF; dsimp only; rw [hn, hb0, he0]
  refine LoopVC.weak [(.cell 3 1, .nil 121 VerT)] (fun a : Nat × List Int × Int × List Ver => [(6, .i .i64 a.1)]) (fun a => [(0, .box [.sl (.int .u8) a.2.1, .i .i64 a.2.2.1]), (4, .arr 121 VerT a.2.2.2)]) (fun a => a.1 ≤ 9 ∧ a.2.1.length ≤ 100000 ∧ a.2.2.2.length ≤ a.1 ∧ takeL 10 n 0 b0 e0 [] = takeL (10 - a.1) n a.1 a.2.1 a.2.2.1 a.2.2.2) (fun a => 9 - a.1) (0, b0, e0, []) (Ev.mk ?_)
  (conv => whnf)
  refine ⟨Leaf.mk ?_, Leaf.mk ?_, ?_⟩
  · rfl
  · exact ⟨by simp, by show b0.length ≤ _; omega, by simp, rfl⟩
  intro ⟨i, rb, re, acc⟩ ⟨hi, hrb, hacc, ht⟩
  dsimp only at hi hrb hacc ht ⊢
  have hs1 := suf_len (rdSmall_suf rb re)
  have hs2 := suf_len (rdSmall_suf (rdSmall rb re).2.1 (rdSmall rb re).2.2)
  have hs3 := fun l => suf_len (rdText_suf l (rdSmall (rdSmall rb re).2.1 (rdSmall rb re).2.2).2.2 24)
  repeat' (first | ((with_reducible refine Ev.mk ?_); conv => whnf) | (with_reducible refine And.intro ?_ ?_) | (intro h))
  all_goals (try simp only [decide_eq_true_eq, decide_eq_false_iff_not, beq_iff_eq, bne_iff_ne, beq_eq_false_iff_ne, bne_eq_false_iff_eq, Int.toNat_natCast, ge_iff_le, gt_iff_lt, Bool.not_eq_true', Bool.not_eq_false', Int.not_lt, Int.not_le, ne_eq] at *)
  all_goals (try dsimp only [Ty.den, Ty.dflt, VerT, sRSmall, sRText] at *)
  all_goals (try simp only [eq4, ne4, eq3, ne3, eq2, ne2, Prod.eta, List.length_cons, List.length_nil, List.length_append, Nat.zero_add] at *)
  all_goals (try simp (disch := omega) only [wrap64] at *)
  all_goals try first | exact leafDraw (by kernel_rfl) | exact Leaf.mk trivial | (refine Leaf.mk ?_; omega) | (refine Leaf.mk ?_; unfold maxLen; omega)
  all_goals (try simp only [List.take_length, Int.reduceToNat] at *)
  · exact Leaf.mk (by rw [List.length_drop]; omega)
  · have hgo := takeL_go (f := 10 - (i + 1)) (acc := acc) (b := rb) (e := re) ⟨⟨‹(i : Int) < n›, ‹(i : Int) ≤ 8›⟩, ‹re = 0›⟩ (if_pos ⟨‹(rdSmall (rdSmall rb re).2.1 (rdSmall rb re).2.2).2.2 = 0›, by omega⟩)
    rw [show 10 - i = 10 - (i + 1) + 1 by omega, hgo] at ht
    have hs3 := hs3 ((rdSmall (rdSmall rb re).2.1 (rdSmall rb re).2.2).2.1.drop 1)
    rw [List.length_drop] at hs3
    exact Leaf.mk ⟨(i + 1, _, _, _), rfl, ⟨by show i + 1 ≤ 9; omega, Nat.le_trans hs3 (by omega), by simp; omega, ht⟩, by show 9 - (i + 1) < _; omega⟩
  · have hgo := takeL_go (f := 10 - (i + 1)) (acc := acc) (b := rb) (e := re) ⟨⟨‹(i : Int) < n›, ‹(i : Int) ≤ 8›⟩, ‹re = 0›⟩ (if_neg (fun hc => by have := hc.2; omega))
    rw [show 10 - i = 10 - (i + 1) + 1 by omega, hgo] at ht
    have hs3 := hs3 (rdSmall (rdSmall rb re).2.1 (rdSmall rb re).2.2).2.1
    exact Leaf.mk ⟨(i + 1, _, _, _), rfl, ⟨by show i + 1 ≤ 9; omega, Nat.le_trans hs3 (by omega), by simp; omega, ht⟩, by show 9 - (i + 1) < _; omega⟩
  · have hgo := takeL_go (f := 10 - (i + 1)) (acc := acc) (b := rb) (e := re) ⟨⟨‹(i : Int) < n›, ‹(i : Int) ≤ 8›⟩, ‹re = 0›⟩ (if_neg (fun hc => h hc.1))
    rw [show 10 - i = 10 - (i + 1) + 1 by omega, hgo] at ht
    have hs3 := hs3 (rdSmall (rdSmall rb re).2.1 (rdSmall rb re).2.2).2.1
    exact Leaf.mk ⟨(i + 1, _, _, _), rfl, ⟨by show i + 1 ≤ 9; omega, Nat.le_trans hs3 (by omega), by simp; omega, ht⟩, by show 9 - (i + 1) < _; omega⟩
  all_goals
    rw [takeL_stop (n := n) (i := (i : Int)) (10 - i) rb re acc (by omega)] at ht
    exact Leaf.mk (retT (u := ((rb, re), ((rdText b e 16).1, acc))) (by show _ = takeF b e; rw [hF, ht]))
theorem suf_cut {R b : List Int} (h : R <:+ b) : (List.take b.length b).drop ((b.length : Int) - (R.length : Int)).toNat = R := by
  have := h.length_le
  rw [List.take_length, show ((b.length : Int) - (R.length : Int)).toNat = b.length - R.length by omega]
  exact (List.suffix_iff_eq_drop.1 h).symm
theorem flat_split {l : List Ver} {i : Nat} (h : i < l.length) (r : List Int) : (l.drop i).flatMap putV ++ r = putSmall (l.getD i ver0).1 ++ (putSmall (l.getD i ver0).2.1 ++ ((if (l.getD i ver0).2.2.1 = true then 1 else 0) :: (putText (l.getD i ver0).2.2.2 ++ ((l.drop (i + 1)).flatMap putV ++ r)))) := by
  rw [drop_at ver0 h]
  simp [putV]
def sSGet : PSpec := ⟨[.d BT], [⟨true, [.d StT]⟩, ⟨false, [.d (.int .i64)]⟩], fun x => List.length (α := Int) x.1 ≤ 100000, fun x => (((getS x.1).1, ()), ((getS x.1).2, ()), ())⟩
def sSGetR : PSpec := sSGet
theorem retG {u v : Stk × Int} (h : u = v) : (some ((u.1, ()), (u.2, ()), ()) : Option ((Stk × Unit) × (Int × Unit) × Unit)) = some ((v.1, ()), (v.2, ()), ()) := by rw [h]
theorem putR11_zero {s : Stk} (h : (putR11 s).2 = 0) : check s = 0 ∧ (putR11 s).1 = putS s := by
  unfold putR11 at h ⊢
  split at h
  · rename_i hc; rw [if_pos hc]; exact ⟨hc, rfl⟩
  · rename_i hc; exact absurd h hc
theorem putR11_not {s : Stk} (h : ¬ (putR11 s).2 = 0) : ¬ check s = 0 := fun hc => h (by unfold putR11; rw [if_pos hc])
theorem fSGetR : FnOk Tryz.prog 101 := ⟨_, Tryz.func101, by decide, rfl⟩
theorem pSGetR : PSound Tryz.prog 101 sSGetR := by
  refine psound (T := tab) (S := (spOf [(165, sTake.spec (lsOf [])), (166, sSPutR.spec (lsOf []))])) (keep := k101) (by kernel_rfl) tabOk (spCons (pOk pTake fTake (by decide) lsNil) (spCons (pOk pSPutR fSPutR (by decide) lsNil) spNil)) (by kernel_rfl) Tryz.func101 (by kernel_rfl) (by decide) fun xs hg hp => ?_
  obtain ⟨b, ⟨⟩⟩ := xs
  obtain ⟨⟨-, hx⟩, -⟩ := hg
  change List Int at b
  change b.length ≤ 100000 at hp
  have hB : isB b := isB_good hx
  clear hx
  show vfun tab _ k101 Tryz.f101 [.sl (.int .u8) b] [] _
  refine Ev.out ?_
  repeat' (first | ((with_reducible refine Ev.mk ?_); conv => whnf) | (with_reducible refine And.intro ?_ ?_) | (intro h))
  all_goals (try simp only [decide_eq_true_eq, decide_eq_false_iff_not, beq_iff_eq, bne_iff_ne, beq_eq_false_iff_ne, bne_eq_false_iff_eq, Int.toNat_natCast, ge_iff_le, gt_iff_lt, Bool.not_eq_true', Bool.not_eq_false', Int.not_lt, Int.not_le, ne_eq] at *)
  all_goals (try dsimp only [Ty.den, Ty.dflt, VerT, sTake, sSPutR, sSPut] at *)
  all_goals (try simp only [eq4, ne4, eq3, ne3, eq2, ne2, Prod.eta, List.length_cons, List.length_nil, List.length_append, Nat.zero_add] at *)
  all_goals (try simp (disch := omega) only [wrap64] at *)
  all_goals try first | exact leafDraw (by kernel_rfl) | exact Leaf.mk trivial | (refine Leaf.mk ?_; omega) | (refine Leaf.mk ?_; unfold maxLen; omega)
  · refine Leaf.mk (retG (u := (([], []), 4)) (v := getS b) ?_)
    unfold getS; rw [if_neg (fun hc => putR11_not h hc.1)]
  · rename_i h0
    refine Leaf.mk (retG (u := (([], []), 4)) (v := getS b) ?_)
    unfold getS; rw [if_neg (fun hc => h (by rw [(putR11_zero h0).2, hc.2]))]
  · rename_i h0
    obtain ⟨h1, h2⟩ := putR11_zero h0
    refine Leaf.mk (retG (u := ((takeF b 0).2, 0)) (v := getS b) ?_)
    unfold getS; rw [if_pos ⟨h1, str_inj (isB_S _) hB (by rw [← h2, h])⟩]
theorem fSGet : FnOk Tryz.prog 98 := ⟨_, Tryz.func98, by decide, rfl⟩
theorem pSGet : PSound Tryz.prog 98 sSGet := by
  refine psound (T := tab) (S := (spOf [(95, sNew.spec (lsOf [])), (162, sText.spec), (96, sSmall.spec), (97, sLeft.spec), (163, sDone.spec), (157, sSPut.spec (lsOf [])), (99, sBEqual.spec (lsOf []))])) (keep := k98) (by kernel_rfl) tabOk (spCons (.inl ⟨nOk lsNil pNew, fNew⟩) (spCons (.inl ⟨pText, fText⟩) (spCons (.inl ⟨pSmall, fSmall⟩) (spCons (.inl ⟨pLeft, fLeft⟩) (spCons (.inl ⟨pDone, fDone⟩) (spCons (pOk pSPut fSPut (by decide) lsNil) (spCons (pOk pBEqual fBEqual (by decide) lsNil) spNil))))))) (by kernel_rfl) Tryz.func98 (by kernel_rfl) (by decide) fun xs hg hp => ?_
  obtain ⟨b, ⟨⟩⟩ := xs
  obtain ⟨⟨-, hx⟩, -⟩ := hg
  change List Int at b
  change b.length ≤ 100000 at hp
  have hB : isB b := isB_good hx
  clear hx
  have hb1 := rdText_suf b 0 16
  have hb2 := rdSmall_suf (rdText b 0 16).2.1 (rdText b 0 16).2.2
  have hl1 := suf_len hb1
  have hl2 := suf_len hb2
  show vfun tab _ k98 Tryz.f98 [.sl (.int .u8) b] [] _
  refine Ev.out ?_
  repeat' (first | ((with_reducible refine Ev.mk ?_); conv => whnf) | (with_reducible refine And.intro ?_ ?_) | (intro h))
  all_goals (try simp only [decide_eq_true_eq, decide_eq_false_iff_not, beq_iff_eq, bne_iff_ne, beq_eq_false_iff_ne, bne_eq_false_iff_eq, Int.toNat_natCast, ge_iff_le, gt_iff_lt, Bool.not_eq_true', Bool.not_eq_false', Int.not_lt, Int.not_le, ne_eq] at *)
  all_goals (try dsimp only [Ty.den, Ty.dflt, VerT, sNew, sText, sSmall] at *)
  all_goals (try simp only [eq4, ne4, eq3, ne3, eq2, ne2, Prod.eta, List.length_cons, List.length_nil, List.length_append, Nat.zero_add] at *)
  all_goals (try simp (disch := omega) only [wrap64] at *)
  all_goals try first | exact leafDraw (by kernel_rfl) | exact Leaf.mk trivial | (refine Leaf.mk ?_; omega) | (refine Leaf.mk ?_; unfold maxLen; omega)
  generalize hN : (if 9 < (rdSmall (rdText b 0 16).2.1 (rdText b 0 16).2.2).1 then 9 else (rdSmall (rdText b 0 16).2.1 (rdText b 0 16).2.2).1) = N
  have hN9 : N ≤ 9 := by rw [← hN]; split <;> omega
  generalize hkey : (rdText b 0 16).1 = key
  generalize hb0 : (rdSmall (rdText b 0 16).2.1 (rdText b 0 16).2.2).2.1 = b0 at *
  generalize he0 : (rdSmall (rdText b 0 16).2.1 (rdText b 0 16).2.2).2.2 = e0
  have h0 : ∀ s, check s = 0 → putS s = b → key = s.1 ∧ N = s.2.length ∧ b0 = s.2.flatMap putV ∧ e0 = 0 := fun s hs hb => by
    have ok := check_ok.1 hs
    have h1 : rdText b 0 16 = (s.1, putSmall s.2.length ++ s.2.flatMap putV, 0) := by
      rw [← hb]; exact rdText_put (by have := ok.key; omega) _
    have h2 := rdSmall_put (n := s.2.length) (by omega) (by have := ok.len; omega) (s.2.flatMap putV)
    rw [h1] at hkey hb0 he0 hN
    dsimp only at hkey hb0 he0 hN
    rw [h2] at hb0 he0 hN
    dsimp only at hkey hb0 he0 hN
    have := ok.len
    exact ⟨hkey.symm, by rw [← hN, if_neg (by omega)], hb0.symm, he0.symm⟩
  refine LoopVC.weak [(.cell 2 1, .nil 121 VerT)] (fun a : Nat × List Int × Int × List Ver => [(18, .i .i64 a.1)]) (fun a => [(1, .box [.sl (.int .u8) a.2.1, .i .i64 a.2.2.1]), (3, .arr 121 VerT a.2.2.2)]) (fun a => a.1 ≤ 9 ∧ a.2.1 <:+ b ∧ a.2.2.2.length = a.1 ∧ ∀ s, check s = 0 → putS s = b → N = s.2.length ∧ key = s.1 ∧ a.1 ≤ s.2.length ∧ a.2.1 = (s.2.drop a.1).flatMap putV ∧ a.2.2.1 = 0 ∧ a.2.2.2 = s.2.take a.1) (fun a => 9 - a.1) (0, b0, e0, []) (Ev.mk ?_)
  (conv => whnf)
  refine ⟨Leaf.mk ?_, Leaf.mk ?_, ?_⟩
  · rfl
  · refine ⟨by simp, hb2.trans hb1, rfl, fun s hs hb => ?_⟩
    obtain ⟨h1, h2, h3, h4⟩ := h0 s hs hb
    exact ⟨h2, h1, Nat.zero_le _, h3, h4, rfl⟩
  intro ⟨i, rb, re, vs⟩ ⟨hi, hrb, hvl, hv⟩
  dsimp only at hi hrb hvl hv ⊢
  have hrl := suf_len hrb
  have hs1 := rdSmall_suf rb re
  have hs2 := rdSmall_suf (rdSmall rb re).2.1 (rdSmall rb re).2.2
  have hs3 := fun l => suf_len (rdText_suf l 0 24)
  have hs1l := suf_len hs1
  have hs2l := suf_len hs2
  repeat' (first | ((with_reducible refine Ev.mk ?_); conv => whnf) | (with_reducible refine And.intro ?_ ?_) | (intro h))
  all_goals (try simp only [decide_eq_true_eq, decide_eq_false_iff_not, beq_iff_eq, bne_iff_ne, beq_eq_false_iff_ne, bne_eq_false_iff_eq, Int.toNat_natCast, ge_iff_le, gt_iff_lt, Bool.not_eq_true', Bool.not_eq_false', Int.not_lt, Int.not_le, ne_eq] at *)
  all_goals (try dsimp only [Ty.den, Ty.dflt, VerT, sNew, sText, sSmall, sLeft, sDone] at *)
  all_goals (try simp only [eq4, ne4, eq3, ne3, eq2, ne2, Prod.eta, List.length_cons, List.length_nil, List.length_append, Nat.zero_add] at *)
  all_goals (try simp (disch := omega) only [wrap64] at *)
  all_goals try first | exact leafDraw (by kernel_rfl) | exact Leaf.mk trivial | (refine Leaf.mk ?_; omega) | (refine Leaf.mk ?_; unfold maxLen; omega)
  all_goals
    have hcut := suf_cut ((hs2.trans hs1).trans hrb)
    simp only [hcut] at *
    generalize hR : (rdSmall (rdSmall rb re).2.1 (rdSmall rb re).2.2).2.1 = R at *
  all_goals (try simp only [List.take_length, Int.reduceToNat] at *)
  -- what a stack's bytes would have been read as
  all_goals
    have hgo : ∀ s, check s = 0 → putS s = b → i < s.2.length → (rdSmall rb re).1 = (s.2.getD i ver0).1 ∧ (rdSmall (rdSmall rb re).2.1 (rdSmall rb re).2.2).1 = (s.2.getD i ver0).2.1 ∧ (rdSmall (rdSmall rb re).2.1 (rdSmall rb re).2.2).2.2 = 0 ∧ R = (if (s.2.getD i ver0).2.2.1 = true then 1 else 0) :: (putText (s.2.getD i ver0).2.2.2 ++ (s.2.drop (i + 1)).flatMap putV) := fun s hs hb hil => by
      obtain ⟨k1, k2, k3, k4, k5, k6⟩ := hv s hs hb
      have ok := (check_ok.1 hs).all _ (getD_mem ver0 hil)
      have e := flat_split hil []
      rw [List.append_nil, List.append_nil] at e
      have e1 : rdSmall rb re = ((s.2.getD i ver0).1, putSmall (s.2.getD i ver0).2.1 ++ ((if (s.2.getD i ver0).2.2.1 = true then 1 else 0) :: (putText (s.2.getD i ver0).2.2.2 ++ (s.2.drop (i + 1)).flatMap putV)), 0) := by
        rw [k4, k5, e]; exact rdSmall_put ok.txn.1 ok.txn.2 _
      rw [e1] at hR ⊢
      dsimp only at hR ⊢
      rw [rdSmall_put ok.ts.1 ok.ts.2] at hR ⊢
      exact ⟨rfl, rfl, rfl, hR.symm⟩
  all_goals (try have hlt : (i : Int) < N := by rw [← hN]; assumption)
  all_goals (try have hge : N ≤ (i : Int) := by rw [← hN]; assumption)
  · refine Leaf.mk (retG (u := (([], []), 4)) (v := getS b) ?_)
    rw [getS_not fun s hs hb => ?_]
    have hil := (hv s hs hb).1
    have := (hgo s hs hb (by omega)).2.2.2
    rw [this] at h
    simp at h
    omega
  · rename_i hdone
    refine Leaf.mk (retG (u := (([], []), 4)) (v := getS b) ?_)
    rw [getS_not fun s hs hb => ?_]
    have hil := (hv s hs hb).1
    obtain ⟨_, _, k3, k4⟩ := hgo s hs hb (by omega)
    have hd : ∀ x : Int, (if ¬ (rdSmall (rdSmall rb re).2.1 (rdSmall rb re).2.2).2.2 = 0 then x else if R.length = 0 then 0 else 4) = 4 := fun x => by
      rw [if_neg (fun hc => hc k3), if_neg (by omega)]
    exact hdone (hd _)
  · exact Leaf.mk (by rw [List.length_drop]; omega)
  · exact Leaf.mk (by rw [List.length_drop]; omega)
  · refine Leaf.mk ⟨(i + 1, _, _, _), rfl, ⟨by show i + 1 ≤ 9; omega, ?_, by simp; omega, fun s hs hb => ?_⟩, by show 9 - (i + 1) < _; omega⟩
    · exact (rdText_suf _ _ _).trans ((List.drop_suffix _ _).trans ((hs2.trans hs1).trans hrb))
    · obtain ⟨k1, k2, k3, k4, k5, k6⟩ := hv s hs hb
      have hil : i < s.2.length := by omega
      obtain ⟨m1, m2, m3, m4⟩ := hgo s hs hb hil
      have ok := (check_ok.1 hs).all _ (getD_mem ver0 hil)
      have e1 : rdText (R.drop 1) 0 24 = ((s.2.getD i ver0).2.2.2, (s.2.drop (i + 1)).flatMap putV, 0) := by
        rw [m4, List.drop_one, List.tail_cons]
        exact rdText_put (by have := ok.val; omega) _
      dsimp only
      rw [e1]
      refine ⟨k1, k2, by omega, rfl, rfl, ?_⟩
      rw [take_at ver0 hil, k6, m1, m2]
      have hg : (R.getD 0 0 == 1) = (s.2.getD i ver0).2.2.1 := by
        rw [m4]
        cases (s.2.getD i ver0).2.2.1 <;> rfl
      rw [hg]
  all_goals
    have hsame : ∀ s, check s = 0 → putS s = b → (key, vs) = s := fun s hs hb => by
      obtain ⟨k1, k2, k3, k4, k5, k6⟩ := hv s hs hb
      rw [k2, k6, List.take_of_length_le (by omega)]
  · refine Leaf.mk (retG (u := (([], []), 4)) (v := getS b) ?_)
    rw [getS_not fun s hs hb => ?_]
    exact putR11_not h (by rw [hsame s hs hb]; exact hs)
  · rename_i h0
    obtain ⟨k1, k2⟩ := putR11_zero h0
    refine Leaf.mk (retG (u := (([], []), 4)) (v := getS b) ?_)
    rw [getS_not fun s hs hb => ?_]
    have h : (strOfBytes b == strOfBytes (putR11 (key, vs)).1) = false := h
    rw [k2, hsame s hs hb, hb] at h
    exact eqSelf h
  · rename_i h0
    obtain ⟨k1, k2⟩ := putR11_zero h0
    have h : (strOfBytes b == strOfBytes (putR11 (key, vs)).1) = true := h
    rw [k2, beq_iff_eq] at h
    refine Leaf.mk (retG (u := ((key, vs), 0)) (v := getS b) ?_)
    rw [getS_put k1 (str_inj hB (isB_S _) h).symm]
end Go.Proofs.YtkmfjlfejdoehaaGreat

set_option linter.unusedVariables false
set_option linter.unusedSimpArgs false
set_option maxRecDepth 8000
set_option maxHeartbeats 4000000
namespace Go.Proofs.YtkmfjlfejdoehaaGreat
open Go.Eng
def abort (s : Stk) (me : Int) : Stk := (s.1, s.2.filter (fun v => !roomP me v))
theorem fAbort1 : FnOk Tryz.prog 188 := ⟨_, Tryz.func188, by decide, rfl⟩
noncomputable def iAbort1 : Eng.Spec := inl tab (spOf []) k188 Tryz.f188
theorem pAbort1 : SpecOk Tryz.prog 188 iAbort1 := inl_ok tabOk spNil (by kernel_rfl) Tryz.func188 (by kernel_rfl)
theorem fWithoutA : FnOk Tryz.prog 187 := ⟨_, Tryz.func187, by decide, rfl⟩
noncomputable def iWithoutA : Eng.Spec := inl tab (spOf [(188, iAbort1)]) k187 Tryz.f187
theorem pWithoutA : SpecOk Tryz.prog 187 iWithoutA := inl_ok tabOk (spCons (.inl ⟨pAbort1, fAbort1⟩) spNil) (by kernel_rfl) Tryz.func187 (by kernel_rfl)
def sAbort : PSpec := ⟨[.d StT, .d (.int .i64)], [⟨true, [.d .str, .o 121 VerT]⟩], fun x => List.length x.1.2 ≤ 100000, fun x => (((abort x.1 x.2.1).1, ((abort x.1 x.2.1).2, ())), ())⟩
theorem fAbort : FnOk Tryz.prog 131 := ⟨_, Tryz.func131, by decide, rfl⟩
theorem pAbort : PSound Tryz.prog 131 sAbort := by
  refine psound (T := tab) (S := (spOf [(187, iWithoutA)])) (keep := k131) (by kernel_rfl) tabOk (spCons (.inl ⟨pWithoutA, fWithoutA⟩) spNil) (by kernel_rfl) Tryz.func131 (by kernel_rfl) (by decide) fun xs hg hp => ?_
  obtain ⟨⟨key, xs⟩, me, ⟨⟩⟩ := xs
  change List UInt8 at key
  change List Ver at xs
  change Int at me
  change xs.length ≤ 100000 at hp
  show vfun tab _ k131 Tryz.f131 [.agg [.s key, .sl VerT xs], .i .i64 me] [] _
  refine Ev.out ?_
  repeat' (first | ((with_reducible refine Ev.mk ?_); conv => whnf) | (with_reducible refine And.intro ?_ ?_) | (intro h))
  all_goals (try simp only [decide_eq_true_eq, decide_eq_false_iff_not, beq_iff_eq, bne_iff_ne, beq_eq_false_iff_ne, bne_eq_false_iff_eq, Int.toNat_natCast, ge_iff_le, gt_iff_lt, Bool.not_eq_true', Bool.not_eq_false', Int.not_lt, Int.not_le, ne_eq] at *)
  all_goals (try dsimp only [Ty.den, Ty.dflt, VerT] at *)
  all_goals (try simp only [eq4, ne4, eq3, ne3, eq2, ne2, Prod.eta, List.length_cons, List.length_nil, List.length_append, Nat.zero_add] at *)
  all_goals (try simp (disch := omega) only [wrap64] at *)
  all_goals try first | exact leafDraw (by kernel_rfl) | exact Leaf.mk trivial | (refine Leaf.mk ?_; omega) | (refine Leaf.mk ?_; unfold maxLen; omega)
  refine LoopVC.weak [(.slot 5, .nil 121 VerT)] (fun i : Nat => [(10, .i .i64 i)]) (fun i => [(27, .arr 121 VerT ((xs.take i).filter (fun v => !roomP me v)))]) (fun i => i ≤ xs.length) (fun i => xs.length - i) 0 (Ev.mk ?_)
  (conv => whnf)
  refine ⟨Leaf.mk rfl, Leaf.mk ?_, ?_⟩
  · omega
  intro i hi
  have hk := length_filter_take (xs := xs) (i := i) (p := fun v => !roomP me v)
  repeat' (first | ((with_reducible refine Ev.mk ?_); conv => whnf) | (with_reducible refine And.intro ?_ ?_) | (intro h))
  all_goals (try simp only [decide_eq_true_eq, decide_eq_false_iff_not, beq_iff_eq, bne_iff_ne, beq_eq_false_iff_ne, bne_eq_false_iff_eq, Int.toNat_natCast, ge_iff_le, gt_iff_lt, Bool.not_eq_true', Bool.not_eq_false', Int.not_lt, Int.not_le, ne_eq] at *)
  all_goals (try dsimp only [Ty.den, Ty.dflt, VerT] at *)
  all_goals (try simp only [eq4, ne4, eq3, ne3, eq2, ne2, Prod.eta, List.length_cons, List.length_nil, List.length_append, Nat.zero_add] at *)
  all_goals (try simp (disch := omega) only [wrap64] at *)
  all_goals try first | exact leafDraw (by kernel_rfl) | exact Leaf.mk trivial | (refine Leaf.mk ?_; omega) | (refine Leaf.mk ?_; unfold maxLen; omega)
  all_goals have hk := length_filter_take (xs := xs) (i := i) (p := fun v => !roomP me v)
  all_goals first
    | exact Leaf.mk (show (((xs.take i).filter (fun v => !roomP me v)).length + 1) * 40 ≤ 140737488355328 by omega)
    | exact Leaf.mk (show ((xs.take i).filter (fun v => !roomP me v)).length + 1 ≤ maxLen by unfold maxLen; omega)
    | (have hil : i = xs.length := by omega
       subst hil
       refine Leaf.mk (retS (s := abort (key, xs) me) ?_)
       rw [abort, List.take_length])
    | (refine Leaf.mk ⟨i + 1, ?_, by omega, by omega⟩
       rw [filter_at ver0 (by omega)]
       first
       | (rw [if_pos (show (!roomP me (xs.getD i ver0)) = true from ?_)]
          · rfl
          · rw [Bool.not_eq_true', ← Bool.not_eq_true]
            intro hc
            simp only [roomP, ver0, Bool.and_eq_true, beq_iff_eq] at hc
            first | exact h hc.1 | exact h hc.2)
       | (rw [if_neg (show ¬ (!roomP me (xs.getD i ver0)) = true from ?_), List.append_nil]
          · rfl
          · rw [Bool.not_eq_true', Bool.not_eq_false]
            simp only [roomP, ver0, Bool.and_eq_true, beq_iff_eq]
            exact ⟨‹_›, ‹_›⟩))
theorem light_of {s : Stk} (h : light s = true) : s.1.length ≤ 100 ∧ s.2.length ≤ 12 := by
  unfold light at h
  rw [Bool.and_eq_true, Bool.and_eq_true] at h
  exact ⟨of_decide_eq_true h.1, of_decide_eq_true h.2.1⟩
end Go.Proofs.YtkmfjlfejdoehaaGreat

set_option linter.unusedVariables false
set_option linter.unusedSimpArgs false
set_option maxRecDepth 8000
set_option maxHeartbeats 4000000
namespace Go.Proofs.YtkmfjlfejdoehaaGreat
open Go.Eng
def one (s : Stk) : List Int := putSmall ((putR11 s).1.length : Nat) ++ (putR11 s).1
def layF (l : List Stk) : List Int := putSmall (l.length : Nat) ++ l.flatMap one
def sizeF (l : List Stk) : Nat := (layF l).length
theorem putR_len (s : Stk) : (putR11 s).1.length ≤ 595 := by
  unfold putR11
  split
  · exact putS_len ‹_›
  · exact Nat.zero_le _
theorem one_len (s : Stk) : (one s).length ≤ 604 := by
  have h1 := putR_len s
  have h2 := putSmall_len ((putR11 s).1.length : Nat)
  rw [one, List.length_append]; omega
theorem flat_lenS {α β : Type} (f : β → List α) (m : Nat) (h : ∀ v, (f v).length ≤ m) : ∀ (l : List β), (l.flatMap f).length ≤ l.length * m
  | [] => by simp
  | v :: r => by
    have := flat_lenS f m h r
    have := h v
    rw [List.flatMap_cons, List.length_append, List.length_cons, Nat.succ_mul]; omega
def sOne : PSpec := ⟨[.d StT], [⟨false, [.o 5 (.int .u8)]⟩], fun _ => True, fun x => ((one x.1, ()), ())⟩
def sOneR : PSpec := sOne
def sLay14 : PSpec := ⟨[.d (.slice StT)], [⟨false, [.o 5 (.int .u8)]⟩], fun x => List.length x.1 ≤ 100000, fun x => ((layF x.1, ()), ())⟩
def sLay14R : PSpec := sLay14
theorem fOne : FnOk Tryz.prog 93 := ⟨_, Tryz.func93, by decide, rfl⟩
theorem pOne : PSound Tryz.prog 93 sOne := by
  refine psound (T := tab) (S := (spOf [(157, sSPut.spec (lsOf [])), (153, sPutSmall.spec (lsOf []))])) (keep := k93) (by kernel_rfl) tabOk (spCons (pOk pSPut fSPut (by decide) lsNil) (spCons (pOk pPutSmall fPutSmall (by decide) lsNil) spNil)) (by kernel_rfl) Tryz.func93 (by kernel_rfl) (by decide) fun xs hg hp => ?_
  obtain ⟨⟨key, xs⟩, ⟨⟩⟩ := xs
  change List UInt8 at key
  change List Ver at xs
  clear hp hg
  show vfun tab _ k93 Tryz.f93 [.agg [.s key, .sl VerT xs]] [] _
  refine Ev.out ?_
  repeat' (first | ((with_reducible refine Ev.mk ?_); conv => whnf) | (with_reducible refine And.intro ?_ ?_) | (intro h))
  all_goals (try simp only [decide_eq_true_eq, decide_eq_false_iff_not, beq_iff_eq, bne_iff_ne, beq_eq_false_iff_ne, bne_eq_false_iff_eq, Int.toNat_natCast, ge_iff_le, gt_iff_lt, Bool.not_eq_true', Bool.not_eq_false', Int.not_lt, Int.not_le, ne_eq] at *)
  all_goals (try dsimp only [Ty.den, Ty.dflt, VerT, sPutSmall, sPutSmallR] at *)
  all_goals (try simp only [eq4, ne4, eq3, ne3, eq2, ne2, Prod.eta, List.length_cons, List.length_nil, List.length_append, Nat.zero_add] at *)
  all_goals (try simp (disch := omega) only [wrap64] at *)
  all_goals try first | exact leafDraw (by kernel_rfl) | exact Leaf.mk trivial | (refine Leaf.mk ?_; omega) | (refine Leaf.mk ?_; unfold maxLen; omega)
  all_goals
    have h1 := putR_len (key, xs)
    have h2 := putSmall_len ((putR11 (key, xs)).1.length : Nat)
    try rw [show (sSPut.fn ((key, xs), ())).1.1 = (putR11 (key, xs)).1 from rfl]
    try rw [show (sSPutR.fn ((key, xs), ())).1.1 = (putR11 (key, xs)).1 from rfl]
    try rw [wrapu (by omega)]
  all_goals first
    | (refine Leaf.mk ?_; omega)
    | (refine Leaf.mk ?_; unfold maxLen; omega)
    | exact Leaf.mk (ret1 rfl)
theorem fOneR : FnOk Tryz.prog 155 := ⟨_, Tryz.func155, by decide, rfl⟩
theorem pOneR : PSound Tryz.prog 155 sOneR := by
  refine psound (T := tab) (S := (spOf [(166, sSPutR.spec (lsOf [])), (154, sPutSmallR.spec (lsOf []))])) (keep := k155) (by kernel_rfl) tabOk (spCons (pOk pSPutR fSPutR (by decide) lsNil) (spCons (pOk pPutSmallR fPutSmallR (by decide) lsNil) spNil)) (by kernel_rfl) Tryz.func155 (by kernel_rfl) (by decide) fun xs hg hp => ?_
  obtain ⟨⟨key, xs⟩, ⟨⟩⟩ := xs
  change List UInt8 at key
  change List Ver at xs
  clear hp hg
  show vfun tab _ k155 Tryz.f155 [.agg [.s key, .sl VerT xs]] [] _
  refine Ev.out ?_
  repeat' (first | ((with_reducible refine Ev.mk ?_); conv => whnf) | (with_reducible refine And.intro ?_ ?_) | (intro h))
  all_goals (try simp only [decide_eq_true_eq, decide_eq_false_iff_not, beq_iff_eq, bne_iff_ne, beq_eq_false_iff_ne, bne_eq_false_iff_eq, Int.toNat_natCast, ge_iff_le, gt_iff_lt, Bool.not_eq_true', Bool.not_eq_false', Int.not_lt, Int.not_le, ne_eq] at *)
  all_goals (try dsimp only [Ty.den, Ty.dflt, VerT, sPutSmall, sPutSmallR] at *)
  all_goals (try simp only [eq4, ne4, eq3, ne3, eq2, ne2, Prod.eta, List.length_cons, List.length_nil, List.length_append, Nat.zero_add] at *)
  all_goals (try simp (disch := omega) only [wrap64] at *)
  all_goals try first | exact leafDraw (by kernel_rfl) | exact Leaf.mk trivial | (refine Leaf.mk ?_; omega) | (refine Leaf.mk ?_; unfold maxLen; omega)
  all_goals
    have h1 := putR_len (key, xs)
    have h2 := putSmall_len ((putR11 (key, xs)).1.length : Nat)
    try rw [show (sSPut.fn ((key, xs), ())).1.1 = (putR11 (key, xs)).1 from rfl]
    try rw [show (sSPutR.fn ((key, xs), ())).1.1 = (putR11 (key, xs)).1 from rfl]
    try rw [wrapu (by omega)]
  all_goals first
    | (refine Leaf.mk ?_; omega)
    | (refine Leaf.mk ?_; unfold maxLen; omega)
    | exact Leaf.mk (ret1 rfl)
theorem fLay14 : FnOk Tryz.prog 88 := ⟨_, Tryz.func88, by decide, rfl⟩
theorem pLay14 : PSound Tryz.prog 88 sLay14 := by
  refine psound (T := tab) (S := (spOf [(93, sOne.spec (lsOf [])), (153, sPutSmall.spec (lsOf []))])) (keep := k88) (by kernel_rfl) tabOk (spCons (pOk pOne fOne (by decide) lsNil) (spCons (pOk pPutSmall fPutSmall (by decide) lsNil) spNil)) (by kernel_rfl) Tryz.func88 (by kernel_rfl) (by decide) fun xs hg hp => ?_
  obtain ⟨xs, ⟨⟩⟩ := xs
  change List Stk at xs
  change xs.length ≤ 100000 at hp
  clear hg
  show vfun tab _ k88 Tryz.f88 [.sl StT xs] [] _
  refine Ev.out ?_
  repeat' (first | ((with_reducible refine Ev.mk ?_); conv => whnf) | (with_reducible refine And.intro ?_ ?_) | (intro h))
  all_goals (try simp only [decide_eq_true_eq, decide_eq_false_iff_not, beq_iff_eq, bne_iff_ne, beq_eq_false_iff_ne, bne_eq_false_iff_eq, Int.toNat_natCast, ge_iff_le, gt_iff_lt, Bool.not_eq_true', Bool.not_eq_false', Int.not_lt, Int.not_le, ne_eq] at *)
  all_goals (try dsimp only [Ty.den, Ty.dflt, StT, sPutSmall, sPutSmallR] at *)
  all_goals (try simp only [eq4, ne4, eq3, ne3, eq2, ne2, Prod.eta, List.length_cons, List.length_nil, List.length_append, Nat.zero_add] at *)
  all_goals (try simp (disch := omega) only [wrap64] at *)
  all_goals try first | exact leafDraw (by kernel_rfl) | exact Leaf.mk trivial | (refine Leaf.mk ?_; omega) | (refine Leaf.mk ?_; unfold maxLen; omega)
  have h2 := putSmall_len (xs.length : Nat)
  rw [wrapu (by omega)]
  refine LoopVC.on (fun i : Nat => [(12, .i .i64 i)]) (fun i => [(0, .arr 5 (.int .u8) (putSmall xs.length ++ (xs.take i).flatMap one))]) (fun i => i ≤ xs.length) (fun i => xs.length - i) 0 (by simp only [List.take_zero, List.flatMap_nil, List.append_nil]; rfl) (by omega) ?_
  intro i hi
  have hfl := flat_lenS one 604 one_len (xs.take i)
  have htl : (xs.take i).length ≤ 100000 := by rw [List.length_take]; omega
  have h1 := one_len (xs.getD i ([], []))
  repeat' (first | ((with_reducible refine Ev.mk ?_); conv => whnf) | (with_reducible refine And.intro ?_ ?_) | (intro h))
  all_goals (try simp only [decide_eq_true_eq, decide_eq_false_iff_not, beq_iff_eq, bne_iff_ne, beq_eq_false_iff_ne, bne_eq_false_iff_eq, Int.toNat_natCast, ge_iff_le, gt_iff_lt, Bool.not_eq_true', Bool.not_eq_false', Int.not_lt, Int.not_le, ne_eq] at *)
  all_goals (try dsimp only [Ty.den, Ty.dflt, StT, sOne, sOneR] at *)
  all_goals (try simp only [eq4, ne4, eq3, ne3, eq2, ne2, Prod.eta, List.length_cons, List.length_nil, List.length_append, Nat.zero_add] at *)
  all_goals (try simp (disch := omega) only [wrap64] at *)
  all_goals try first | exact leafDraw (by kernel_rfl) | exact Leaf.mk trivial | (refine Leaf.mk ?_; omega) | (refine Leaf.mk ?_; unfold maxLen; omega)
  all_goals try first
    | (refine Leaf.mk ?_; omega)
    | (refine Leaf.mk ?_; unfold maxLen; omega)
  · refine Leaf.mk ⟨i + 1, ?_, by omega, by omega⟩
    rw [flatMap_at ([], []) (by omega), ← List.append_assoc]; rfl
  · refine Leaf.mk (ret1 (show _ = layF xs from ?_))
    rw [List.take_of_length_le (by omega)]; rfl
theorem fLay14R : FnOk Tryz.prog 89 := ⟨_, Tryz.func89, by decide, rfl⟩
theorem pLay14R : PSound Tryz.prog 89 sLay14R := by
  refine psound (T := tab) (S := (spOf [(155, sOneR.spec (lsOf [])), (154, sPutSmallR.spec (lsOf []))])) (keep := k89) (by kernel_rfl) tabOk (spCons (pOk pOneR fOneR (by decide) lsNil) (spCons (pOk pPutSmallR fPutSmallR (by decide) lsNil) spNil)) (by kernel_rfl) Tryz.func89 (by kernel_rfl) (by decide) fun xs hg hp => ?_
  obtain ⟨xs, ⟨⟩⟩ := xs
  change List Stk at xs
  change xs.length ≤ 100000 at hp
  clear hg
  show vfun tab _ k89 Tryz.f89 [.sl StT xs] [] _
  refine Ev.out ?_
  repeat' (first | ((with_reducible refine Ev.mk ?_); conv => whnf) | (with_reducible refine And.intro ?_ ?_) | (intro h))
  all_goals (try simp only [decide_eq_true_eq, decide_eq_false_iff_not, beq_iff_eq, bne_iff_ne, beq_eq_false_iff_ne, bne_eq_false_iff_eq, Int.toNat_natCast, ge_iff_le, gt_iff_lt, Bool.not_eq_true', Bool.not_eq_false', Int.not_lt, Int.not_le, ne_eq] at *)
  all_goals (try dsimp only [Ty.den, Ty.dflt, StT, sPutSmall, sPutSmallR] at *)
  all_goals (try simp only [eq4, ne4, eq3, ne3, eq2, ne2, Prod.eta, List.length_cons, List.length_nil, List.length_append, Nat.zero_add] at *)
  all_goals (try simp (disch := omega) only [wrap64] at *)
  all_goals try first | exact leafDraw (by kernel_rfl) | exact Leaf.mk trivial | (refine Leaf.mk ?_; omega) | (refine Leaf.mk ?_; unfold maxLen; omega)
  have h2 := putSmall_len (xs.length : Nat)
  rw [wrapu (by omega)]
  refine LoopVC.on (fun i : Nat => [(4, .i .i64 i)]) (fun i => [(0, .arr 5 (.int .u8) (putSmall xs.length ++ (xs.take i).flatMap one))]) (fun i => i ≤ xs.length) (fun i => xs.length - i) 0 (by simp only [List.take_zero, List.flatMap_nil, List.append_nil]; rfl) (by omega) ?_
  intro i hi
  have hfl := flat_lenS one 604 one_len (xs.take i)
  have htl : (xs.take i).length ≤ 100000 := by rw [List.length_take]; omega
  have h1 := one_len (xs.getD i ([], []))
  repeat' (first | ((with_reducible refine Ev.mk ?_); conv => whnf) | (with_reducible refine And.intro ?_ ?_) | (intro h))
  all_goals (try simp only [decide_eq_true_eq, decide_eq_false_iff_not, beq_iff_eq, bne_iff_ne, beq_eq_false_iff_ne, bne_eq_false_iff_eq, Int.toNat_natCast, ge_iff_le, gt_iff_lt, Bool.not_eq_true', Bool.not_eq_false', Int.not_lt, Int.not_le, ne_eq] at *)
  all_goals (try dsimp only [Ty.den, Ty.dflt, StT, sOne, sOneR] at *)
  all_goals (try simp only [eq4, ne4, eq3, ne3, eq2, ne2, Prod.eta, List.length_cons, List.length_nil, List.length_append, Nat.zero_add] at *)
  all_goals (try simp (disch := omega) only [wrap64] at *)
  all_goals try first | exact leafDraw (by kernel_rfl) | exact Leaf.mk trivial | (refine Leaf.mk ?_; omega) | (refine Leaf.mk ?_; unfold maxLen; omega)
  all_goals try first
    | (refine Leaf.mk ?_; omega)
    | (refine Leaf.mk ?_; unfold maxLen; omega)
  · refine Leaf.mk ⟨i + 1, ?_, by omega, by omega⟩
    rw [flatMap_at ([], []) (by omega), ← List.append_assoc]; rfl
  · refine Leaf.mk (ret1 (show _ = layF xs from ?_))
    rw [List.take_of_length_le (by omega)]; rfl
def sSizeR : PSpec := ⟨[.d (.slice StT)], [⟨false, [.d (.int .i64)]⟩], fun x => List.length x.1 ≤ 100000, fun x => (((sizeF x.1 : Nat), ()), ())⟩
theorem fSizeR : FnOk Tryz.prog 27 := ⟨_, Tryz.func27, by decide, rfl⟩
theorem pSizeR : PSound Tryz.prog 27 sSizeR := by
  refine psound (T := tab) (S := (spOf [(89, sLay14R.spec (lsOf []))])) (keep := k27) (by kernel_rfl) tabOk (spCons (pOk pLay14R fLay14R (by decide) lsNil) spNil) (by kernel_rfl) Tryz.func27 (by kernel_rfl) (by decide) fun xs hg hp => ?_
  obtain ⟨xs, ⟨⟩⟩ := xs
  change List Stk at xs
  change xs.length ≤ 100000 at hp
  clear hg
  show vfun tab _ k27 Tryz.f27 [.sl StT xs] [] _
  refine Ev.out ?_
  repeat' (first | ((with_reducible refine Ev.mk ?_); conv => whnf) | (with_reducible refine And.intro ?_ ?_) | (intro h))
  all_goals first | exact Leaf.mk hp | exact Leaf.mk rfl
def lightL (l : List Stk) (most : Int) : Bool := decide ((l.length : Int) ≤ most) && l.all light
def sLight14 : PSpec := ⟨[.d (.slice StT), .d (.int .i64)], [⟨false, [.d .bool]⟩], fun _ => True, fun x => ((lightL x.1 x.2.1, ()), ())⟩
theorem all_at {α : Type} {p : α → Bool} {xs : List α} {i : Nat} (d : α) (h : i < xs.length) : (xs.take (i + 1)).all p = ((xs.take i).all p && p (xs.getD i d)) := by
  rw [take_at d h, List.all_append]; simp
theorem all_no {α : Type} {p : α → Bool} {xs : List α} {i : Nat} (d : α) (h : i < xs.length) (hn : p (xs.getD i d) = false) : xs.all p = false := by
  have : ¬ xs.all p = true := fun hc => by
    rw [List.all_eq_true] at hc
    have := hc _ (getD_mem d h)
    rw [hn] at this; exact absurd this (by simp)
  simpa using this
theorem fLight14 : FnOk Tryz.prog 10 := ⟨_, Tryz.func10, by decide, rfl⟩
theorem pLight14 : PSound Tryz.prog 10 sLight14 := by
  refine psound (T := tab) (S := (spOf [(36, sLight.spec (lsOf []))])) (keep := k10) (by kernel_rfl) tabOk (spCons (pOk pLight fLight (by decide) lsNil) spNil) (by kernel_rfl) Tryz.func10 (by kernel_rfl) (by decide) fun xs hg hp => ?_
  obtain ⟨xs, most, ⟨⟩⟩ := xs
  obtain ⟨⟨hl, -⟩, -⟩ := hg
  change List Stk at xs
  change Int at most
  change xs.length ≤ _ at hl
  have hl := len63 hl
  clear hp
  show vfun tab _ k10 Tryz.f10 [.sl StT xs, .i .i64 most] [] _
  refine Ev.out ?_
  repeat' (first | ((with_reducible refine Ev.mk ?_); conv => whnf) | (with_reducible refine And.intro ?_ ?_) | (intro h))
  all_goals (try simp only [decide_eq_true_eq, decide_eq_false_iff_not, beq_iff_eq, bne_iff_ne, beq_eq_false_iff_ne, bne_eq_false_iff_eq, Int.toNat_natCast, ge_iff_le, gt_iff_lt, Bool.not_eq_true', Bool.not_eq_false', Int.not_lt, Int.not_le, ne_eq] at *)
  all_goals (try dsimp only [Ty.den, Ty.dflt, StT] at *)
  all_goals (try simp only [eq4, ne4, eq3, ne3, eq2, ne2, Prod.eta, List.length_cons, List.length_nil, List.length_append, Nat.zero_add] at *)
  all_goals (try simp (disch := omega) only [wrap64] at *)
  · refine Leaf.mk (ret1 (show false = lightL xs most from ?_))
    rw [lightL, decide_eq_false (by omega), Bool.false_and]
  refine LoopVC.on (fun i : Nat => [(5, .i .i64 i)]) (fun _ => []) (fun i => i ≤ xs.length ∧ (xs.take i).all light = true) (fun i => xs.length - i) 0 rfl ⟨by omega, rfl⟩ ?_
  intro i ⟨hi, he⟩
  repeat' (first | ((with_reducible refine Ev.mk ?_); conv => whnf) | (with_reducible refine And.intro ?_ ?_) | (intro h))
  all_goals (try simp only [decide_eq_true_eq, decide_eq_false_iff_not, beq_iff_eq, bne_iff_ne, beq_eq_false_iff_ne, bne_eq_false_iff_eq, Int.toNat_natCast, ge_iff_le, gt_iff_lt, Bool.not_eq_true', Bool.not_eq_false', Int.not_lt, Int.not_le, ne_eq] at *)
  all_goals (try dsimp only [Ty.den, Ty.dflt, StT, sLight] at *)
  all_goals (try simp only [eq4, ne4, eq3, ne3, eq2, ne2, Prod.eta, List.length_cons, List.length_nil, List.length_append, Nat.zero_add] at *)
  all_goals (try simp (disch := omega) only [wrap64] at *)
  all_goals try first | exact leafDraw (by kernel_rfl) | exact Leaf.mk trivial | (refine Leaf.mk ?_; omega) | (refine Leaf.mk ?_; unfold maxLen; omega)
  · refine Leaf.mk (ret1 (show false = lightL xs most from ?_))
    rw [lightL, all_no ([], []) (by omega) h, Bool.and_false]
  · refine Leaf.mk ⟨i + 1, rfl, ⟨by omega, ?_⟩, by omega⟩
    rw [all_at ([], []) (by omega), he, Bool.true_and]; exact h
  · refine Leaf.mk (ret1 (show true = lightL xs most from ?_))
    rw [List.take_of_length_le (by omega)] at he
    rw [lightL, he, Bool.and_true, decide_eq_true (by omega)]
end Go.Proofs.YtkmfjlfejdoehaaGreat

set_option linter.unusedVariables false
set_option linter.unusedSimpArgs false
set_option maxRecDepth 8000
set_option maxHeartbeats 4000000
namespace Go.Proofs.YtkmfjlfejdoehaaGreat
open Go.Eng
abbrev stk0 : Stk := ([], [])
def emptyS (s : Stk) : Bool := ((s.2.length : Nat) : Int) == 0
def sIndexFuncT : PSpec := ⟨[.d (.slice StT), .lam StT .bool], [⟨false, [.d (.int .i64)]⟩], fun _ => True, fun x => ((idxF x.2.1 x.1 0, ()), ())⟩
theorem fIndexFuncT : FnOk Tryz.prog 148 := ⟨_, Tryz.func148, by decide, rfl⟩
theorem pIndexFuncT : PSound Tryz.prog 148 sIndexFuncT := by
  refine psound (T := tab) (S := (spOf [])) (keep := k148) (by kernel_rfl) tabOk spNil (by kernel_rfl) Tryz.func148 (by kernel_rfl) (by decide) fun xs hg hp => ?_
  obtain ⟨xs, p, ⟨⟩⟩ := xs
  obtain ⟨⟨hl, -⟩, -⟩ := hg
  change List Stk at xs
  change Stk → Bool at p
  have hl := len63 hl
  clear hp
  show vfun tab _ k148 Tryz.f148 [.sl StT xs, .lam StT .bool p] [] _
  refine Ev.out ?_
  repeat' (first | ((with_reducible refine Ev.mk ?_); conv => whnf) | (with_reducible refine And.intro ?_ ?_) | (intro h))
  refine LoopVC.on (fun i : Nat => [(8, .i .i64 i)]) (fun _ => []) (fun i => i ≤ xs.length ∧ idxF p xs 0 = idxF p (xs.drop i) i) (fun i => xs.length - i) 0 rfl ⟨by omega, by simp⟩ ?_
  intro i ⟨hi, he⟩
  repeat' (first | ((with_reducible refine Ev.mk ?_); conv => whnf) | (with_reducible refine And.intro ?_ ?_) | (intro h))
  all_goals (try simp only [decide_eq_true_eq, decide_eq_false_iff_not, beq_iff_eq, bne_iff_ne, beq_eq_false_iff_ne, bne_eq_false_iff_eq, Int.toNat_natCast, ge_iff_le, gt_iff_lt, Bool.not_eq_true', Bool.not_eq_false', Int.not_lt, Int.not_le, ne_eq] at *)
  all_goals (try dsimp only [Ty.den, Ty.dflt, StT] at *)
  all_goals (try simp only [eq4, ne4, eq3, ne3, eq2, ne2, Prod.eta, List.length_cons, List.length_nil, List.length_append, Nat.zero_add] at *)
  all_goals (try simp (disch := omega) only [wrap64] at *)
  all_goals try first | exact leafDraw (by kernel_rfl) | exact Leaf.mk trivial | (refine Leaf.mk ?_; omega) | (refine Leaf.mk ?_; unfold maxLen; omega)
  all_goals first
    | (rw [drop_end (by omega)] at he; exact Leaf.mk (ret1 he.symm))
    | (rw [drop_at stk0 (by omega), idxF, if_pos (by assumption)] at he; exact Leaf.mk (ret1 he.symm))
    | (rw [drop_at stk0 (by omega), idxF, if_neg (by simp_all)] at he; exact Leaf.mk ⟨i + 1, rfl, ⟨by omega, he⟩, by omega⟩)
def sContainsFuncT : PSpec := ⟨[.d (.slice StT), .lam StT .bool], [⟨false, [.d .bool]⟩], fun _ => True, fun x => ((List.any x.1 x.2.1, ()), ())⟩
theorem fContainsFuncT : FnOk Tryz.prog 85 := ⟨_, Tryz.func85, by decide, rfl⟩
theorem pContainsFuncT : PSound Tryz.prog 85 sContainsFuncT := by
  refine psound (T := tab) (S := (spOf [(148, sIndexFuncT.spec (lsOf []))])) (keep := k85) (by kernel_rfl) tabOk (spCons (pOk pIndexFuncT fIndexFuncT (by decide) lsNil) spNil) (by kernel_rfl) Tryz.func85 (by kernel_rfl) (by decide) fun xs hg hp => ?_
  obtain ⟨xs, p, ⟨⟩⟩ := xs
  change List Stk at xs
  change Stk → Bool at p
  show vfun tab _ k85 Tryz.f85 [.sl StT xs, .lam StT .bool p] [] _
  refine Ev.out ?_
  repeat' (first | ((with_reducible refine Ev.mk ?_); conv => whnf) | (with_reducible refine And.intro ?_ ?_) | (intro h))
  · exact Leaf.mk trivial
  · exact Leaf.mk (ret1 (idxF_any xs 0))
def sCloneT : PSpec := ⟨[.d (.slice StT)], [⟨false, [.o 38 StT]⟩], fun x => x.1.length ≤ 1000000, fun x => ((x.1, ()), ())⟩
theorem fCloneT : FnOk Tryz.prog 92 := ⟨_, Tryz.func92, by decide, rfl⟩
theorem pCloneT : PSound Tryz.prog 92 sCloneT := by
  refine psound (T := tab) (S := (spOf [])) (keep := k92) (by kernel_rfl) tabOk spNil (by kernel_rfl) Tryz.func92 (by kernel_rfl) (by decide) fun xs hg hp => ?_
  obtain ⟨xs, ⟨⟩⟩ := xs
  obtain ⟨⟨hl, -⟩, -⟩ := hg
  change List Stk at xs
  clear hl
  change xs.length ≤ 1000000 at hp
  show vfun tab _ k92 Tryz.f92 [.sl StT xs] [] _
  refine Ev.out ?_
  repeat' (first | ((with_reducible refine Ev.mk ?_); conv => whnf) | (with_reducible refine And.intro ?_ ?_) | (intro h))
  all_goals (try simp only [decide_eq_true_eq, decide_eq_false_iff_not, beq_iff_eq, bne_iff_ne, beq_eq_false_iff_ne, bne_eq_false_iff_eq, Int.toNat_natCast, ge_iff_le, gt_iff_lt, Bool.not_eq_true', Bool.not_eq_false', Int.not_lt, Int.not_le, ne_eq] at *)
  all_goals (try dsimp only [Ty.den, Ty.dflt, StT] at *)
  all_goals (try simp only [eq4, ne4, eq3, ne3, eq2, ne2, Prod.eta, List.length_cons, List.length_nil, List.length_append, Nat.zero_add] at *)
  all_goals (try simp (disch := omega) only [wrap64] at *)
  all_goals try first | exact leafDraw (by kernel_rfl) | exact Leaf.mk trivial | (refine Leaf.mk ?_; omega) | (refine Leaf.mk ?_; unfold maxLen; omega)
  all_goals first
    | (refine Leaf.mk (ret1 (show ([] : List Stk) = xs from ?_)); exact (List.eq_nil_of_length_eq_zero (by omega)).symm)
    | exact Leaf.mk (ret1 rfl)
    | skip
def firstS : List Stk → Int
  | [] => 0
  | s :: r => if check s = 0 then firstS r else check s
def Up (l : List Stk) (n : Nat) : Prop := ∀ j, j < n → 1 ≤ j → (l.getD (j - 1) stk0).1 < (l.getD j stk0).1
instance (l : List Stk) (n : Nat) : Decidable (Up l n) := by unfold Up; infer_instance
def mayL (l : List Stk) : Int := if firstS l = 0 then (if l.any emptyS = true then 4 else if Up l l.length then 0 else 12) else firstS l
theorem firstS_at {xs : List Stk} {i : Nat} (h : i < xs.length) : firstS (xs.drop i) = if check (xs.getD i stk0) = 0 then firstS (xs.drop (i + 1)) else check (xs.getD i stk0) := by
  rw [drop_at stk0 h, firstS]
theorem up_step {l : List Stk} {i : Nat} (h : Up l i) (h1 : (l.getD (i - 1) stk0).1 < (l.getD i stk0).1) : Up l (i + 1) := fun j hj hj1 => by
  rcases Nat.lt_or_ge j i with hji | hji
  · exact h j hji hj1
  · obtain rfl : j = i := by omega
    exact h1
theorem up_not {l : List Stk} {i : Nat} (hi : 1 ≤ i) (hl : i < l.length) (h : sless (l.getD (i - 1) stk0).1 (l.getD i stk0).1 = false) : ¬ Up l l.length := fun hc => by
  have := sless_iff.2 (hc i hl hi)
  rw [h] at this; exact absurd this (by simp)
abbrev SsT : Ty := .slice StT
end Go.Proofs.YtkmfjlfejdoehaaGreat

set_option linter.unusedVariables false
set_option linter.unusedSimpArgs false
set_option maxRecDepth 8000
set_option maxHeartbeats 4000000
namespace Go.Proofs.YtkmfjlfejdoehaaGreat
open Go.Eng
set_option synthInstance.maxHeartbeats 400000
instance decVerI : DecidableEq Ver := inferInstanceAs (DecidableEq (Int × Int × Bool × List UInt8))
instance decStk : DecidableEq Stk := inferInstanceAs (DecidableEq (List UInt8 × List Ver))
def sameL (a b : List Stk) : Bool := decide (a = b)
def sSameAll : PSpec := ⟨[.d SsT, .d SsT], [⟨false, [.d .bool]⟩], fun _ => True, fun x => ((sameL x.1 x.2.1, ()), ())⟩
theorem fSameAll : FnOk Tryz.prog 14 := ⟨_, Tryz.func14, by decide, rfl⟩
theorem pSameAll : PSound Tryz.prog 14 sSameAll := by
  refine psound (T := tab) (S := (spOf [(21, sSSameR.spec (lsOf []))])) (keep := k14) (by kernel_rfl) tabOk (spCons (pOk pSSameR fSSameR (by decide) lsNil) spNil) (by kernel_rfl) Tryz.func14 (by kernel_rfl) (by decide) fun xs hg hp => ?_
  obtain ⟨xs, ys, ⟨⟩⟩ := xs
  obtain ⟨⟨hl, -⟩, ⟨hl2, -⟩, -⟩ := hg
  have hl := len63 hl
  have hl2 := len63 hl2
  change List Stk at xs ys
  change xs.length ≤ _ at hl
  change ys.length ≤ _ at hl2
  clear hp
  show vfun tab _ k14 Tryz.f14 [.sl StT xs, .sl StT ys] [] _
  refine Ev.out ?_
  repeat' (first | ((with_reducible refine Ev.mk ?_); conv => whnf) | (with_reducible refine And.intro ?_ ?_) | (intro h))
  all_goals (try simp only [decide_eq_true_eq, decide_eq_false_iff_not, beq_iff_eq, bne_iff_ne, beq_eq_false_iff_ne, bne_eq_false_iff_eq, Int.toNat_natCast, ge_iff_le, gt_iff_lt, Bool.not_eq_true', Bool.not_eq_false', Int.not_lt, Int.not_le, ne_eq] at *)
  all_goals (try dsimp only [Ty.den, Ty.dflt, StT] at *)
  all_goals (try simp only [eq4, ne4, eq3, ne3, eq2, ne2, Prod.eta, List.length_cons, List.length_nil, List.length_append, Nat.zero_add] at *)
  all_goals (try simp (disch := omega) only [wrap64] at *)
  · refine Leaf.mk (ret1 (show false = sameL xs ys from ?_))
    rw [sameL, eq_comm, decide_eq_false_iff_not]; intro hc; subst hc; omega
  refine LoopVC.on (fun i : Nat => [(5, .i .i64 i)]) (fun _ => []) (fun i => i ≤ xs.length ∧ xs.take i = ys.take i) (fun i => xs.length - i) 0 rfl ⟨by omega, by simp⟩ ?_
  intro i ⟨hi, he⟩
  repeat' (first | ((with_reducible refine Ev.mk ?_); conv => whnf) | (with_reducible refine And.intro ?_ ?_) | (intro h))
  all_goals (try simp only [decide_eq_true_eq, decide_eq_false_iff_not, beq_iff_eq, bne_iff_ne, beq_eq_false_iff_ne, bne_eq_false_iff_eq, Int.toNat_natCast, ge_iff_le, gt_iff_lt, Bool.not_eq_true', Bool.not_eq_false', Int.not_lt, Int.not_le, ne_eq] at *)
  all_goals (try dsimp only [Ty.den, Ty.dflt, StT, sSSameR, sSSame] at *)
  all_goals (try simp only [eq4, ne4, eq3, ne3, eq2, ne2, Prod.eta, List.length_cons, List.length_nil, List.length_append, Nat.zero_add] at *)
  all_goals (try simp (disch := omega) only [wrap64] at *)
  all_goals try first | exact leafDraw (by kernel_rfl) | exact Leaf.mk trivial | (refine Leaf.mk ?_; omega) | (refine Leaf.mk ?_; unfold maxLen; omega)
  all_goals first
    | exact Leaf.mk (ret1 (show false = sameL xs ys by rw [sameL, eq_comm, decide_eq_false_iff_not]; exact same_not stk0 (of_decide_eq_false (show decide (_ = _) = false from h))))
    | exact Leaf.mk ⟨i + 1, rfl, ⟨by omega, same_step stk0 (by omega) he (by omega) (of_decide_eq_true (show decide (_ = _) = true from h))⟩, by omega⟩
    | exact Leaf.mk (ret1 (show true = sameL xs ys by rw [sameL, eq_comm, decide_eq_true_eq]; exact same_end (by omega) he (by omega)))
end Go.Proofs.YtkmfjlfejdoehaaGreat

set_option linter.unusedVariables false
set_option linter.unusedSimpArgs false
set_option maxRecDepth 8000
set_option maxHeartbeats 4000000
namespace Go.Proofs.YtkmfjlfejdoehaaGreat
open Go.Eng
theorem sameL_self {a : List Stk} (h : sameL a a = false) {P : Prop} : P := absurd h (by rw [sameL, decide_eq_true rfl]; simp)
theorem lightL_len {l : List Stk} {m : Int} (h : lightL l m = true) : (l.length : Int) ≤ m := by
  unfold lightL at h
  rw [Bool.and_eq_true] at h
  exact of_decide_eq_true h.1
end Go.Proofs.YtkmfjlfejdoehaaGreat

set_option linter.unusedVariables false
set_option linter.unusedSimpArgs false
set_option maxRecDepth 8000
set_option maxHeartbeats 4000000
namespace Go.Proofs.YtkmfjlfejdoehaaGreat
open Go.Eng
theorem firstS_zero : ∀ {l : List Stk}, firstS l = 0 ↔ ∀ s ∈ l, check s = 0
  | [] => by simp [firstS]
  | s :: r => by
    rw [firstS, List.forall_mem_cons]
    split
    · rename_i h; rw [firstS_zero]; exact ⟨fun h2 => ⟨h, h2⟩, fun h2 => h2.2⟩
    · rename_i h; exact ⟨fun h2 => absurd h2 h, fun h2 => absurd h2.1 h⟩
theorem up_lt {l : List Stk} (h : Up l l.length) : ∀ (d i : Nat), i + d + 1 < l.length → (l.getD i stk0).1 < (l.getD (i + d + 1) stk0).1
  | 0, i, hi => by have := h (i + 1) (by omega) (by omega); rwa [Nat.add_sub_cancel] at this
  | d + 1, i, hi => by
    have h1 := up_lt h d i (by omega)
    have h2 := h (i + (d + 1) + 1) (by omega) (by omega)
    rw [Nat.add_sub_cancel] at h2
    exact slt_trans h1 h2
theorem up_pair {l : List Stk} : Up l l.length ↔ l.Pairwise (fun a b => a.1 < b.1) := by
  rw [List.pairwise_iff_getElem]
  have eg : ∀ i (hi : i < l.length), l.getD i stk0 = l[i] := fun i hi => by simp [List.getD, hi]
  constructor
  · intro h i j hi hj hij
    have := up_lt h (j - i - 1) i (by omega)
    rw [show i + (j - i - 1) + 1 = j by omega, eg i hi, eg j hj] at this
    exact this
  · intro h j hj hj1
    rw [eg _ (by omega), eg j hj]
    exact h (j - 1) j (by omega) hj (by omega)
theorem mayL_zero {l : List Stk} : mayL l = 0 ↔ (∀ s ∈ l, check s = 0) ∧ l.any emptyS = false ∧ l.Pairwise (fun a b => a.1 < b.1) := by
  rw [← firstS_zero, ← up_pair, mayL]
  split
  · rename_i h
    split
    · rename_i h2; simp [h, h2]
    · rename_i h2
      split <;> simp_all
  · rename_i h; simp [h]
end Go.Proofs.YtkmfjlfejdoehaaGreat

set_option linter.unusedVariables false
set_option linter.unusedSimpArgs false
set_option maxRecDepth 8000
set_option maxHeartbeats 4000000
namespace Go.Proofs.YtkmfjlfejdoehaaGreat
open Go.Eng
def lLCheck1 : LSpec := ⟨StT, .bool, [], fun v _ => emptyS v⟩
theorem fLCheck1 : FnOk Tryz.prog 86 := ⟨_, Tryz.func86, by decide, rfl⟩
theorem pLCheck1 : PSound Tryz.prog 86 lLCheck1.p := by
  refine psound (T := tab) (S := (spOf [])) (keep := k86) (by kernel_rfl) tabOk spNil (by kernel_rfl) Tryz.func86 (by kernel_rfl) (by decide) fun xs hg hp => ?_
  obtain ⟨⟨key, xs⟩, ⟨⟩⟩ := xs
  show vfun tab _ k86 Tryz.f86 [.agg [.s key, .sl VerT xs]] [] _
  refine Ev.out ?_
  repeat' (first | ((with_reducible refine Ev.mk ?_); conv => whnf) | (with_reducible refine And.intro ?_ ?_) | (intro h))
  exact Leaf.mk rfl
def checkL (l : List Stk) : Int := if mayL l = 0 then (if 1016 < sizeF l then 5 else 0) else mayL l
def sLSize : PSpec := ⟨[.st SsT], [⟨false, [.d (.int .i64)]⟩], fun x => List.length x.1 ≤ 100000, fun x => (((sizeF x.1 : Nat), ()), ())⟩
theorem fLSize : FnOk Tryz.prog 26 := ⟨_, Tryz.func26, by decide, rfl⟩
theorem pLSize : PSound Tryz.prog 26 sLSize := by
  refine psound (T := tab) (S := (spOf [(88, sLay14.spec (lsOf []))])) (keep := k26) (by kernel_rfl) tabOk (spCons (pOk pLay14 fLay14 (by decide) lsNil) spNil) (by kernel_rfl) Tryz.func26 (by kernel_rfl) (by decide) fun xs hg hp => ?_
  obtain ⟨xs, ⟨⟩⟩ := xs
  change List Stk at xs
  change xs.length ≤ 100000 at hp
  clear hg
  show vfun tab _ k26 Tryz.f26 [.agg [.sl StT xs]] [] _
  refine Ev.out ?_
  repeat' (first | ((with_reducible refine Ev.mk ?_); conv => whnf) | (with_reducible refine And.intro ?_ ?_) | (intro h))
  all_goals first | exact Leaf.mk hp | exact Leaf.mk rfl
def sLCheck : PSpec := ⟨[.st SsT], [⟨false, [.d (.int .i64)]⟩], fun x => List.length x.1 ≤ 100000, fun x => ((checkL x.1, ()), ())⟩
theorem fLCheck : FnOk Tryz.prog 24 := ⟨_, Tryz.func24, by decide, rfl⟩
theorem pLCheck : PSound Tryz.prog 24 sLCheck := by
  refine psound (T := tab) (S := (spOf [(84, sCheck.spec (lsOf [(86, lLCheck1)])), (85, sContainsFuncT.spec (lsOf [(86, lLCheck1)])), (26, sLSize.spec (lsOf [(86, lLCheck1)]))])) (keep := k24) (by kernel_rfl) tabOk (spCons (pOk pCheck fCheck (by decide) ((lsCons ⟨pLCheck1, fLCheck1⟩ lsNil))) (spCons (pOk pContainsFuncT fContainsFuncT (by decide) ((lsCons ⟨pLCheck1, fLCheck1⟩ lsNil))) (spCons (pOk pLSize fLSize (by decide) ((lsCons ⟨pLCheck1, fLCheck1⟩ lsNil))) spNil))) (by kernel_rfl) Tryz.func24 (by kernel_rfl) (by decide) fun xs hg hp => ?_
  obtain ⟨xs, ⟨⟩⟩ := xs
  change List Stk at xs
  change xs.length ≤ 100000 at hp
  clear hg
  show vfun tab _ k24 Tryz.f24 [.agg [.sl StT xs]] [] _
  refine Ev.out ?_
  repeat' (first | ((with_reducible refine Ev.mk ?_); conv => whnf) | (with_reducible refine And.intro ?_ ?_) | (intro h))
  all_goals (try simp only [decide_eq_true_eq, decide_eq_false_iff_not, beq_iff_eq, bne_iff_ne, beq_eq_false_iff_ne, bne_eq_false_iff_eq, Int.toNat_natCast, ge_iff_le, gt_iff_lt, Bool.not_eq_true', Bool.not_eq_false', Int.not_lt, Int.not_le, ne_eq] at *)
  all_goals (try dsimp only [Ty.den, Ty.dflt, StT] at *)
  all_goals (try simp only [eq4, ne4, eq3, ne3, eq2, ne2, Prod.eta, List.length_cons, List.length_nil, List.length_append, Nat.zero_add] at *)
  all_goals (try simp (disch := omega) only [wrap64] at *)
  all_goals try first | exact leafDraw (by kernel_rfl) | exact Leaf.mk trivial | (refine Leaf.mk ?_; omega) | (refine Leaf.mk ?_; unfold maxLen; omega)
  refine LoopVC.on (fun i : Nat => [(10, .i .i64 i)]) (fun _ => []) (fun i => i ≤ xs.length ∧ firstS xs = firstS (xs.drop i)) (fun i => xs.length - i) 0 rfl ⟨by omega, rfl⟩ ?_
  intro i ⟨hi, he⟩
  repeat' (first | ((with_reducible refine Ev.mk ?_); conv => whnf) | (with_reducible refine And.intro ?_ ?_) | (intro h))
  all_goals (try simp only [decide_eq_true_eq, decide_eq_false_iff_not, beq_iff_eq, bne_iff_ne, beq_eq_false_iff_ne, bne_eq_false_iff_eq, Int.toNat_natCast, ge_iff_le, gt_iff_lt, Bool.not_eq_true', Bool.not_eq_false', Int.not_lt, Int.not_le, ne_eq] at *)
  all_goals (try dsimp only [Ty.den, Ty.dflt, StT, sCheck] at *)
  all_goals (try simp only [eq4, ne4, eq3, ne3, eq2, ne2, Prod.eta, List.length_cons, List.length_nil, List.length_append, Nat.zero_add] at *)
  all_goals (try simp (disch := omega) only [wrap64] at *)
  all_goals try first | exact leafDraw (by kernel_rfl) | exact Leaf.mk trivial | (refine Leaf.mk ?_; omega) | (refine Leaf.mk ?_; unfold maxLen; omega)
  · rw [firstS_at (by omega), if_neg h] at he
    refine Leaf.mk (ret1 (show check (xs.getD i stk0) = checkL xs from ?_))
    have hm : mayL xs = check (xs.getD i stk0) := by rw [mayL, if_neg (by rw [he]; exact h), he]
    rw [checkL, if_neg (by rw [hm]; exact h), hm]
  · rw [firstS_at (by omega), if_pos h] at he
    exact Leaf.mk ⟨i + 1, rfl, ⟨by omega, he⟩, by omega⟩
  all_goals
    rw [drop_end (by omega)] at he
    have h0 : firstS xs = 0 := he
  · refine Leaf.mk (ret1 (show 4 = checkL xs from ?_))
    have hm : mayL xs = 4 := by rw [mayL, if_pos h0, if_pos]; assumption
    rw [checkL, if_neg (by rw [hm]; decide), hm]
  have hM : mayL xs = if Up xs xs.length then 0 else 12 := by
    rw [mayL, if_pos h0, if_neg]
    intro hc
    have h2 : xs.any emptyS = false := by assumption
    rw [hc] at h2; exact absurd h2 (by simp)
  refine LoopVC.on (fun i : Nat => [(6, .i .i64 i)]) (fun _ => []) (fun i => 1 ≤ i ∧ Up xs i) (fun i => xs.length - i) 1 rfl ⟨by omega, fun j hj hj1 => by omega⟩ ?_
  intro i ⟨hi, hu⟩
  repeat' (first | ((with_reducible refine Ev.mk ?_); conv => whnf) | (with_reducible refine And.intro ?_ ?_) | (intro h))
  all_goals (try simp only [decide_eq_true_eq, decide_eq_false_iff_not, beq_iff_eq, bne_iff_ne, beq_eq_false_iff_ne, bne_eq_false_iff_eq, Int.toNat_natCast, ge_iff_le, gt_iff_lt, Bool.not_eq_true', Bool.not_eq_false', Int.not_lt, Int.not_le, ne_eq] at *)
  all_goals (try dsimp only [Ty.den, Ty.dflt, StT, sLSize] at *)
  all_goals (try simp only [eq4, ne4, eq3, ne3, eq2, ne2, Prod.eta, List.length_cons, List.length_nil, List.length_append, Nat.zero_add] at *)
  all_goals (try simp (disch := omega) only [wrap64] at *)
  all_goals try first | exact leafDraw (by kernel_rfl) | exact Leaf.mk trivial | (refine Leaf.mk ?_; omega) | (refine Leaf.mk ?_; unfold maxLen; omega)
  all_goals try rw [show ((i : Int) - 1).toNat = i - 1 by omega] at h
  · refine Leaf.mk (ret1 (show 12 = checkL xs from ?_))
    have hm : mayL xs = 12 := by rw [hM, if_neg (up_not hi (by omega) h)]
    rw [checkL, if_neg (by rw [hm]; decide), hm]
  · exact Leaf.mk ⟨i + 1, rfl, ⟨by omega, up_step hu (sless_iff.1 h)⟩, by omega⟩
  all_goals
    have hm : mayL xs = 0 := by rw [hM, if_pos (show Up xs xs.length from fun j hj hj1 => hu j (by omega) hj1)]
  · refine Leaf.mk (ret1 (show 5 = checkL xs from ?_))
    rw [checkL, if_pos hm, if_pos (by omega)]
  · refine Leaf.mk (ret1 (show 0 = checkL xs from ?_))
    rw [checkL, if_pos hm, if_neg (by omega)]
end Go.Proofs.YtkmfjlfejdoehaaGreat
