import Derived.Test.YtlfehkoklgmjjaaF5


set_option linter.unusedVariables false
set_option linter.unusedSimpArgs false
set_option maxRecDepth 8000
set_option maxHeartbeats 4000000
namespace Go.Proofs.Ytlfehkoklgmjjaa
open Go.Eng
theorem rdSmall_suf (b : List Int) (e : Int) : (rdSmall b e).2.1 <:+ b := by
  unfold rdSmall
  repeat' split
  all_goals first | exact List.suffix_refl _ | exact List.drop_suffix _ _
theorem rdText_suf (b : List Int) (e m : Int) : (rdText b e m).2.1 <:+ b := by
  unfold rdText
  generalize (if 0 < m then m else 0) = mm
  repeat' split
  all_goals first | exact List.suffix_refl _ | exact List.drop_suffix _ _
theorem suf_len {a b : List Int} (h : a <:+ b) : a.length ≤ b.length := h.length_le
def sTake : PSpec := ⟨[.d RdT], [⟨true, [.d RdT]⟩, ⟨true, [.d StT]⟩], fun x => List.length (α := Int) x.1.1 ≤ 100000, fun x => (((takeF x.1.1 x.1.2).1, ()), ((takeF x.1.1 x.1.2).2, ()), ())⟩
theorem takeL_go {f : Nat} {n i : Int} {b : List Int} {e : Int} {acc : List Ver} (h : (i < n ∧ i ≤ 8) ∧ e = 0) {g : Bool × List Int} (hg : (if (rdSmall (rdSmall b e).2.1 (rdSmall b e).2.2).2.2 = 0 ∧ 0 < (rdSmall (rdSmall b e).2.1 (rdSmall b e).2.2).2.1.length then (decide ((rdSmall (rdSmall b e).2.1 (rdSmall b e).2.2).2.1.getD 0 0 = 1), (rdSmall (rdSmall b e).2.1 (rdSmall b e).2.2).2.1.drop 1) else (false, (rdSmall (rdSmall b e).2.1 (rdSmall b e).2.2).2.1)) = g) :
    takeL (f + 1) n i b e acc = takeL f n (i + 1) (rdText g.2 (rdSmall (rdSmall b e).2.1 (rdSmall b e).2.2).2.2 24).2.1 (rdText g.2 (rdSmall (rdSmall b e).2.1 (rdSmall b e).2.2).2.2 24).2.2 (acc ++ [((rdSmall b e).1, (rdSmall (rdSmall b e).2.1 (rdSmall b e).2.2).1, g.1, (rdText g.2 (rdSmall (rdSmall b e).2.1 (rdSmall b e).2.2).2.2 24).1)]) := by
  rw [takeL, if_pos h]
  dsimp only
  rw [hg]
theorem retT {u v : (List Int × Int) × Stk} (h : u = v) : (some ((u.1, ()), (u.2, ()), ()) : Option (((List Int × Int) × Unit) × (Stk × Unit) × Unit)) = some ((v.1, ()), (v.2, ()), ()) := by rw [h]
theorem fTake : FnOk Try.prog 123 := ⟨_, Try.func123, by decide, rfl⟩
theorem pTake : PSound Try.prog 123 sTake := by
  refine psound (T := tab) (S := (spOf [(103, sRSmall.spec (lsOf [])), (104, sRText.spec (lsOf []))])) (keep := k123) (by kernel_rfl) tabOk (spCons (pOk pRSmall fRSmall (by decide) lsNil) (spCons (pOk pRText fRText (by decide) lsNil) spNil)) (by kernel_rfl) Try.func123 (by kernel_rfl) (by decide) fun xs hg hp => ?_
  obtain ⟨⟨b, e⟩, ⟨⟩⟩ := xs
  change List Int at b
  change Int at e
  change b.length ≤ 100000 at hp
  clear hg
  have hb1 := suf_len (rdText_suf b e 16)
  have hb2 := suf_len (rdSmall_suf (rdText b e 16).2.1 (rdText b e 16).2.2)
  show vfun tab _ k123 Try.f123 [.agg [.sl (.int .u8) b, .i .i64 e]] [] _
  refine Ev.out ?_
  repeat' (first | ((with_reducible refine Ev.mk ?_); conv => whnf) | (with_reducible refine And.intro ?_ ?_) | (intro h))
  all_goals (try simp only [decide_eq_true_eq, decide_eq_false_iff_not, beq_iff_eq, bne_iff_ne, beq_eq_false_iff_ne, bne_eq_false_iff_eq, Int.toNat_natCast, ge_iff_le, gt_iff_lt, Bool.not_eq_true', Bool.not_eq_false', Int.not_lt, Int.not_le, ne_eq] at *)
  all_goals (try dsimp only [Ty.den, Ty.dflt, VerT, sRSmall, sRText] at *)
  all_goals (try simp only [eq4, ne4, eq3, ne3, eq2, ne2, Prod.eta, List.length_cons, List.length_nil, List.length_append, Nat.zero_add] at *)
  all_goals (try simp (disch := omega) only [wrap64] at *)
  all_goals try first | exact leafDraw (by kernel_rfl) | exact Leaf.mk trivial | (refine Leaf.mk ?_; omega) | (refine Leaf.mk ?_; unfold maxLen; omega)
  generalize hn : (rdSmall (rdText b e 16).2.1 (rdText b e 16).2.2).1 = n
  generalize hb0 : (rdSmall (rdText b e 16).2.1 (rdText b e 16).2.2).2.1 = b0 at *
  generalize he0 : (rdSmall (rdText b e 16).2.1 (rdText b e 16).2.2).2.2 = e0
  have hF : takeF b e = (((takeL 10 n 0 b0 e0 []).1, (takeL 10 n 0 b0 e0 []).2.1), ((rdText b e 16).1, (takeL 10 n 0 b0 e0 []).2.2)) := by
    unfold takeF; dsimp only; rw [hn, hb0, he0]
  refine LoopVC.weak [(.cell 3 1, .nil 90 VerT)] (fun a : Nat × List Int × Int × List Ver => [(6, .i .i64 a.1)]) (fun a => [(0, .box [.sl (.int .u8) a.2.1, .i .i64 a.2.2.1]), (4, .arr 90 VerT a.2.2.2)]) (fun a => a.1 ≤ 9 ∧ a.2.1.length ≤ 100000 ∧ a.2.2.2.length ≤ a.1 ∧ takeL 10 n 0 b0 e0 [] = takeL (10 - a.1) n a.1 a.2.1 a.2.2.1 a.2.2.2) (fun a => 9 - a.1) (0, b0, e0, []) (Ev.mk ?_)
  (conv => whnf)
  refine ⟨Leaf.mk ?_, Leaf.mk ?_, ?_⟩
  · rfl
  · exact ⟨by simp, by show b0.length ≤ _; omega, by simp, rfl⟩
  intro ⟨i, rb, re, acc⟩ ⟨hi, hrb, hacc, ht⟩
  dsimp only at hi hrb hacc ht ⊢
  have hs1 := suf_len (rdSmall_suf rb re)
  have hs2 := suf_len (rdSmall_suf (rdSmall rb re).2.1 (rdSmall rb re).2.2)
  have hs3 := fun l => suf_len (rdText_suf l (rdSmall (rdSmall rb re).2.1 (rdSmall rb re).2.2).2.2 24)
  repeat' (first | ((with_reducible refine Ev.mk ?_); conv => whnf) | (with_reducible refine And.intro ?_ ?_) | (intro h))
  all_goals (try simp only [decide_eq_true_eq, decide_eq_false_iff_not, beq_iff_eq, bne_iff_ne, beq_eq_false_iff_ne, bne_eq_false_iff_eq, Int.toNat_natCast, ge_iff_le, gt_iff_lt, Bool.not_eq_true', Bool.not_eq_false', Int.not_lt, Int.not_le, ne_eq] at *)
  all_goals (try dsimp only [Ty.den, Ty.dflt, VerT, sRSmall, sRText] at *)
  all_goals (try simp only [eq4, ne4, eq3, ne3, eq2, ne2, Prod.eta, List.length_cons, List.length_nil, List.length_append, Nat.zero_add] at *)
  all_goals (try simp (disch := omega) only [wrap64] at *)
  all_goals try first | exact leafDraw (by kernel_rfl) | exact Leaf.mk trivial | (refine Leaf.mk ?_; omega) | (refine Leaf.mk ?_; unfold maxLen; omega)
  all_goals (try simp only [List.take_length, Int.reduceToNat] at *)
  · exact Leaf.mk (by rw [List.length_drop]; omega)
  · have hgo := takeL_go (f := 10 - (i + 1)) (acc := acc) (b := rb) (e := re) ⟨⟨‹(i : Int) < n›, ‹(i : Int) ≤ 8›⟩, ‹re = 0›⟩ (if_pos ⟨‹(rdSmall (rdSmall rb re).2.1 (rdSmall rb re).2.2).2.2 = 0›, by omega⟩)
    rw [show 10 - i = 10 - (i + 1) + 1 by omega, hgo] at ht
    have hs3 := hs3 ((rdSmall (rdSmall rb re).2.1 (rdSmall rb re).2.2).2.1.drop 1)
    rw [List.length_drop] at hs3
    exact Leaf.mk ⟨(i + 1, _, _, _), rfl, ⟨by show i + 1 ≤ 9; omega, Nat.le_trans hs3 (by omega), by simp; omega, ht⟩, by show 9 - (i + 1) < _; omega⟩
  · have hgo := takeL_go (f := 10 - (i + 1)) (acc := acc) (b := rb) (e := re) ⟨⟨‹(i : Int) < n›, ‹(i : Int) ≤ 8›⟩, ‹re = 0›⟩ (if_neg (fun hc => by have := hc.2; omega))
    rw [show 10 - i = 10 - (i + 1) + 1 by omega, hgo] at ht
    have hs3 := hs3 (rdSmall (rdSmall rb re).2.1 (rdSmall rb re).2.2).2.1
    exact Leaf.mk ⟨(i + 1, _, _, _), rfl, ⟨by show i + 1 ≤ 9; omega, Nat.le_trans hs3 (by omega), by simp; omega, ht⟩, by show 9 - (i + 1) < _; omega⟩
  · have hgo := takeL_go (f := 10 - (i + 1)) (acc := acc) (b := rb) (e := re) ⟨⟨‹(i : Int) < n›, ‹(i : Int) ≤ 8›⟩, ‹re = 0›⟩ (if_neg (fun hc => h hc.1))
    rw [show 10 - i = 10 - (i + 1) + 1 by omega, hgo] at ht
    have hs3 := hs3 (rdSmall (rdSmall rb re).2.1 (rdSmall rb re).2.2).2.1
    exact Leaf.mk ⟨(i + 1, _, _, _), rfl, ⟨by show i + 1 ≤ 9; omega, Nat.le_trans hs3 (by omega), by simp; omega, ht⟩, by show 9 - (i + 1) < _; omega⟩
  all_goals
    rw [takeL_stop (n := n) (i := (i : Int)) (10 - i) rb re acc (by omega)] at ht
    exact Leaf.mk (retT (u := ((rb, re), ((rdText b e 16).1, acc))) (by show _ = takeF b e; rw [hF, ht]))
theorem suf_cut {R b : List Int} (h : R <:+ b) : (List.take b.length b).drop ((b.length : Int) - (R.length : Int)).toNat = R := by
  have := h.length_le
  rw [List.take_length, show ((b.length : Int) - (R.length : Int)).toNat = b.length - R.length by omega]
  exact (List.suffix_iff_eq_drop.1 h).symm
theorem flat_split {l : List Ver} {i : Nat} (h : i < l.length) (r : List Int) : (l.drop i).flatMap putV ++ r = putSmall (l.getD i ver0).1 ++ (putSmall (l.getD i ver0).2.1 ++ ((if (l.getD i ver0).2.2.1 = true then 1 else 0) :: (putText (l.getD i ver0).2.2.2 ++ ((l.drop (i + 1)).flatMap putV ++ r)))) := by
  rw [drop_at ver0 h]
  simp [putV]
/-! ## Get -/
theorem str_eq {xs ys : List Int} (hx : isB xs) (hy : isB ys) : (strOfBytes xs == strOfBytes ys) = decide (xs = ys) := by
  by_cases h : xs = ys
  · subst h; simp
  · rw [decide_eq_false h, beq_eq_false_iff_ne]
    exact fun hc => h (str_inj hx hy hc)
def sSGet : PSpec := ⟨[.d BT], [⟨true, [.d StT]⟩, ⟨false, [.d (.int .i64)]⟩], fun x => List.length (α := Int) x.1 ≤ 100000, fun x => (((getS x.1).1, ()), ((getS x.1).2, ()), ())⟩
def sSGetR : PSpec := sSGet
theorem retG {u v : Stk × Int} (h : u = v) : (some ((u.1, ()), (u.2, ()), ()) : Option ((Stk × Unit) × (Int × Unit) × Unit)) = some ((v.1, ()), (v.2, ()), ()) := by rw [h]
theorem putR11_zero {s : Stk} (h : (putR11 s).2 = 0) : check s = 0 ∧ (putR11 s).1 = putS s := by
  unfold putR11 at h ⊢
  split at h
  · rename_i hc; rw [if_pos hc]; exact ⟨hc, rfl⟩
  · rename_i hc; exact absurd h hc
theorem putR11_not {s : Stk} (h : ¬ (putR11 s).2 = 0) : ¬ check s = 0 := fun hc => h (by unfold putR11; rw [if_pos hc])
theorem fSGetR : FnOk Try.prog 50 := ⟨_, Try.func50, by decide, rfl⟩
theorem pSGetR : PSound Try.prog 50 sSGetR := by
  refine psound (T := tab) (S := (spOf [(123, sTake.spec (lsOf [])), (48, sSPutR.spec (lsOf []))])) (keep := k50) (by kernel_rfl) tabOk (spCons (pOk pTake fTake (by decide) lsNil) (spCons (pOk pSPutR fSPutR (by decide) lsNil) spNil)) (by kernel_rfl) Try.func50 (by kernel_rfl) (by decide) fun xs hg hp => ?_
  obtain ⟨b, ⟨⟩⟩ := xs
  obtain ⟨⟨-, hx⟩, -⟩ := hg
  change List Int at b
  change b.length ≤ 100000 at hp
  have hB : isB b := isB_good hx
  clear hx
  show vfun tab _ k50 Try.f50 [.sl (.int .u8) b] [] _
  refine Ev.out ?_
  repeat' (first | ((with_reducible refine Ev.mk ?_); conv => whnf) | (with_reducible refine And.intro ?_ ?_) | (intro h))
  all_goals (try simp only [decide_eq_true_eq, decide_eq_false_iff_not, beq_iff_eq, bne_iff_ne, beq_eq_false_iff_ne, bne_eq_false_iff_eq, Int.toNat_natCast, ge_iff_le, gt_iff_lt, Bool.not_eq_true', Bool.not_eq_false', Int.not_lt, Int.not_le, ne_eq] at *)
  all_goals (try dsimp only [Ty.den, Ty.dflt, VerT, sTake, sSPutR, sSPut] at *)
  all_goals (try simp only [eq4, ne4, eq3, ne3, eq2, ne2, Prod.eta, List.length_cons, List.length_nil, List.length_append, Nat.zero_add] at *)
  all_goals (try simp (disch := omega) only [wrap64] at *)
  all_goals try first | exact leafDraw (by kernel_rfl) | exact Leaf.mk trivial | (refine Leaf.mk ?_; omega) | (refine Leaf.mk ?_; unfold maxLen; omega)
  · refine Leaf.mk (retG (u := (([], []), 4)) (v := getS b) ?_)
    unfold getS; rw [if_neg (fun hc => putR11_not h hc.1)]
  · rename_i h0
    refine Leaf.mk (retG (u := (([], []), 4)) (v := getS b) ?_)
    unfold getS; rw [if_neg (fun hc => h (by rw [(putR11_zero h0).2, hc.2]))]
  · rename_i h0
    obtain ⟨h1, h2⟩ := putR11_zero h0
    refine Leaf.mk (retG (u := ((takeF b 0).2, 0)) (v := getS b) ?_)
    unfold getS; rw [if_pos ⟨h1, str_inj (isB_S _) hB (by rw [← h2, h])⟩]
theorem fSGet : FnOk Try.prog 49 := ⟨_, Try.func49, by decide, rfl⟩
theorem pSGet : PSound Try.prog 49 sSGet := by
  refine psound (T := tab) (S := (spOf [(98, sNew.spec (lsOf [])), (101, sText.spec), (99, sSmall.spec), (100, sLeft.spec), (122, sDone.spec), (47, sSPut.spec (lsOf [])), (102, sBEqual.spec (lsOf []))])) (keep := k49) (by kernel_rfl) tabOk (spCons (.inl ⟨nOk lsNil pNew, fNew⟩) (spCons (.inl ⟨pText, fText⟩) (spCons (.inl ⟨pSmall, fSmall⟩) (spCons (.inl ⟨pLeft, fLeft⟩) (spCons (.inl ⟨pDone, fDone⟩) (spCons (pOk pSPut fSPut (by decide) lsNil) (spCons (pOk pBEqual fBEqual (by decide) lsNil) spNil))))))) (by kernel_rfl) Try.func49 (by kernel_rfl) (by decide) fun xs hg hp => ?_
  obtain ⟨b, ⟨⟩⟩ := xs
  obtain ⟨⟨-, hx⟩, -⟩ := hg
  change List Int at b
  change b.length ≤ 100000 at hp
  have hB : isB b := isB_good hx
  clear hx
  have hb1 := rdText_suf b 0 16
  have hb2 := rdSmall_suf (rdText b 0 16).2.1 (rdText b 0 16).2.2
  have hl1 := suf_len hb1
  have hl2 := suf_len hb2
  show vfun tab _ k49 Try.f49 [.sl (.int .u8) b] [] _
  refine Ev.out ?_
  repeat' (first | ((with_reducible refine Ev.mk ?_); conv => whnf) | (with_reducible refine And.intro ?_ ?_) | (intro h))
  all_goals (try simp only [decide_eq_true_eq, decide_eq_false_iff_not, beq_iff_eq, bne_iff_ne, beq_eq_false_iff_ne, bne_eq_false_iff_eq, Int.toNat_natCast, ge_iff_le, gt_iff_lt, Bool.not_eq_true', Bool.not_eq_false', Int.not_lt, Int.not_le, ne_eq] at *)
  all_goals (try dsimp only [Ty.den, Ty.dflt, VerT, sNew, sText, sSmall] at *)
  all_goals (try simp only [eq4, ne4, eq3, ne3, eq2, ne2, Prod.eta, List.length_cons, List.length_nil, List.length_append, Nat.zero_add] at *)
  all_goals (try simp (disch := omega) only [wrap64] at *)
  all_goals try first | exact leafDraw (by kernel_rfl) | exact Leaf.mk trivial | (refine Leaf.mk ?_; omega) | (refine Leaf.mk ?_; unfold maxLen; omega)
  generalize hN : (if 9 < (rdSmall (rdText b 0 16).2.1 (rdText b 0 16).2.2).1 then 9 else (rdSmall (rdText b 0 16).2.1 (rdText b 0 16).2.2).1) = N
  have hN9 : N ≤ 9 := by rw [← hN]; split <;> omega
  generalize hkey : (rdText b 0 16).1 = key
  generalize hb0 : (rdSmall (rdText b 0 16).2.1 (rdText b 0 16).2.2).2.1 = b0 at *
  generalize he0 : (rdSmall (rdText b 0 16).2.1 (rdText b 0 16).2.2).2.2 = e0
  have h0 : ∀ s, check s = 0 → putS s = b → key = s.1 ∧ N = s.2.length ∧ b0 = s.2.flatMap putV ∧ e0 = 0 := fun s hs hb => by
    have ok := check_ok.1 hs
    have h1 : rdText b 0 16 = (s.1, putSmall s.2.length ++ s.2.flatMap putV, 0) := by
      rw [← hb]; exact rdText_put (by have := ok.key; omega) _
    have h2 := rdSmall_put (n := s.2.length) (by omega) (by have := ok.len; omega) (s.2.flatMap putV)
    rw [h1] at hkey hb0 he0 hN
    dsimp only at hkey hb0 he0 hN
    rw [h2] at hb0 he0 hN
    dsimp only at hkey hb0 he0 hN
    have := ok.len
    exact ⟨hkey.symm, by rw [← hN, if_neg (by omega)], hb0.symm, he0.symm⟩
  refine LoopVC.weak [(.cell 2 1, .nil 90 VerT)] (fun a : Nat × List Int × Int × List Ver => [(18, .i .i64 a.1)]) (fun a => [(1, .box [.sl (.int .u8) a.2.1, .i .i64 a.2.2.1]), (3, .arr 90 VerT a.2.2.2)]) (fun a => a.1 ≤ 9 ∧ a.2.1 <:+ b ∧ a.2.2.2.length = a.1 ∧ ∀ s, check s = 0 → putS s = b → N = s.2.length ∧ key = s.1 ∧ a.1 ≤ s.2.length ∧ a.2.1 = (s.2.drop a.1).flatMap putV ∧ a.2.2.1 = 0 ∧ a.2.2.2 = s.2.take a.1) (fun a => 9 - a.1) (0, b0, e0, []) (Ev.mk ?_)
  (conv => whnf)
  refine ⟨Leaf.mk ?_, Leaf.mk ?_, ?_⟩
  · rfl
  · refine ⟨by simp, hb2.trans hb1, rfl, fun s hs hb => ?_⟩
    obtain ⟨h1, h2, h3, h4⟩ := h0 s hs hb
    exact ⟨h2, h1, Nat.zero_le _, h3, h4, rfl⟩
  intro ⟨i, rb, re, vs⟩ ⟨hi, hrb, hvl, hv⟩
  dsimp only at hi hrb hvl hv ⊢
  have hrl := suf_len hrb
  have hs1 := rdSmall_suf rb re
  have hs2 := rdSmall_suf (rdSmall rb re).2.1 (rdSmall rb re).2.2
  have hs3 := fun l => suf_len (rdText_suf l 0 24)
  have hs1l := suf_len hs1
  have hs2l := suf_len hs2
  repeat' (first | ((with_reducible refine Ev.mk ?_); conv => whnf) | (with_reducible refine And.intro ?_ ?_) | (intro h))
  all_goals (try simp only [decide_eq_true_eq, decide_eq_false_iff_not, beq_iff_eq, bne_iff_ne, beq_eq_false_iff_ne, bne_eq_false_iff_eq, Int.toNat_natCast, ge_iff_le, gt_iff_lt, Bool.not_eq_true', Bool.not_eq_false', Int.not_lt, Int.not_le, ne_eq] at *)
  all_goals (try dsimp only [Ty.den, Ty.dflt, VerT, sNew, sText, sSmall, sLeft, sDone] at *)
  all_goals (try simp only [eq4, ne4, eq3, ne3, eq2, ne2, Prod.eta, List.length_cons, List.length_nil, List.length_append, Nat.zero_add] at *)
  all_goals (try simp (disch := omega) only [wrap64] at *)
  all_goals try first | exact leafDraw (by kernel_rfl) | exact Leaf.mk trivial | (refine Leaf.mk ?_; omega) | (refine Leaf.mk ?_; unfold maxLen; omega)
  all_goals
    have hcut := suf_cut ((hs2.trans hs1).trans hrb)
    simp only [hcut] at *
    generalize hR : (rdSmall (rdSmall rb re).2.1 (rdSmall rb re).2.2).2.1 = R at *
  all_goals (try simp only [List.take_length, Int.reduceToNat] at *)
  -- what a stack's bytes would have been read as
  all_goals
    have hgo : ∀ s, check s = 0 → putS s = b → i < s.2.length → (rdSmall rb re).1 = (s.2.getD i ver0).1 ∧ (rdSmall (rdSmall rb re).2.1 (rdSmall rb re).2.2).1 = (s.2.getD i ver0).2.1 ∧ (rdSmall (rdSmall rb re).2.1 (rdSmall rb re).2.2).2.2 = 0 ∧ R = (if (s.2.getD i ver0).2.2.1 = true then 1 else 0) :: (putText (s.2.getD i ver0).2.2.2 ++ (s.2.drop (i + 1)).flatMap putV) := fun s hs hb hil => by
      obtain ⟨k1, k2, k3, k4, k5, k6⟩ := hv s hs hb
      have ok := (check_ok.1 hs).all _ (getD_mem ver0 hil)
      have e := flat_split hil []
      rw [List.append_nil, List.append_nil] at e
      have e1 : rdSmall rb re = ((s.2.getD i ver0).1, putSmall (s.2.getD i ver0).2.1 ++ ((if (s.2.getD i ver0).2.2.1 = true then 1 else 0) :: (putText (s.2.getD i ver0).2.2.2 ++ (s.2.drop (i + 1)).flatMap putV)), 0) := by
        rw [k4, k5, e]; exact rdSmall_put ok.txn.1 ok.txn.2 _
      rw [e1] at hR ⊢
      dsimp only at hR ⊢
      rw [rdSmall_put ok.ts.1 ok.ts.2] at hR ⊢
      exact ⟨rfl, rfl, rfl, hR.symm⟩
  all_goals (try have hlt : (i : Int) < N := by rw [← hN]; assumption)
  all_goals (try have hge : N ≤ (i : Int) := by rw [← hN]; assumption)
  · refine Leaf.mk (retG (u := (([], []), 4)) (v := getS b) ?_)
    rw [getS_not fun s hs hb => ?_]
    have hil := (hv s hs hb).1
    have := (hgo s hs hb (by omega)).2.2.2
    rw [this] at h
    simp at h
    omega
  · rename_i hdone
    refine Leaf.mk (retG (u := (([], []), 4)) (v := getS b) ?_)
    rw [getS_not fun s hs hb => ?_]
    have hil := (hv s hs hb).1
    obtain ⟨_, _, k3, k4⟩ := hgo s hs hb (by omega)
    have hd : ∀ x : Int, (if ¬ (rdSmall (rdSmall rb re).2.1 (rdSmall rb re).2.2).2.2 = 0 then x else if R.length = 0 then 0 else 4) = 4 := fun x => by
      rw [if_neg (fun hc => hc k3), if_neg (by omega)]
    exact hdone (hd _)
  · exact Leaf.mk (by rw [List.length_drop]; omega)
  · exact Leaf.mk (by rw [List.length_drop]; omega)
  · refine Leaf.mk ⟨(i + 1, _, _, _), rfl, ⟨by show i + 1 ≤ 9; omega, ?_, by simp; omega, fun s hs hb => ?_⟩, by show 9 - (i + 1) < _; omega⟩
    · exact (rdText_suf _ _ _).trans ((List.drop_suffix _ _).trans ((hs2.trans hs1).trans hrb))
    · obtain ⟨k1, k2, k3, k4, k5, k6⟩ := hv s hs hb
      have hil : i < s.2.length := by omega
      obtain ⟨m1, m2, m3, m4⟩ := hgo s hs hb hil
      have ok := (check_ok.1 hs).all _ (getD_mem ver0 hil)
      have e1 : rdText (R.drop 1) 0 24 = ((s.2.getD i ver0).2.2.2, (s.2.drop (i + 1)).flatMap putV, 0) := by
        rw [m4, List.drop_one, List.tail_cons]
        exact rdText_put (by have := ok.val; omega) _
      dsimp only
      rw [e1]
      refine ⟨k1, k2, by omega, rfl, rfl, ?_⟩
      rw [take_at ver0 hil, k6, m1, m2]
      have hg : (R.getD 0 0 == 1) = (s.2.getD i ver0).2.2.1 := by
        rw [m4]
        cases (s.2.getD i ver0).2.2.1 <;> rfl
      rw [hg]
  all_goals
    have hsame : ∀ s, check s = 0 → putS s = b → (key, vs) = s := fun s hs hb => by
      obtain ⟨k1, k2, k3, k4, k5, k6⟩ := hv s hs hb
      rw [k2, k6, List.take_of_length_le (by omega)]
  · refine Leaf.mk (retG (u := (([], []), 4)) (v := getS b) ?_)
    rw [getS_not fun s hs hb => ?_]
    exact putR11_not h (by rw [hsame s hs hb]; exact hs)
  · rename_i h0
    obtain ⟨k1, k2⟩ := putR11_zero h0
    refine Leaf.mk (retG (u := (([], []), 4)) (v := getS b) ?_)
    rw [getS_not fun s hs hb => ?_]
    have h : (strOfBytes b == strOfBytes (putR11 (key, vs)).1) = false := h
    rw [k2, hsame s hs hb, hb] at h
    exact eqSelf h
  · rename_i h0
    obtain ⟨k1, k2⟩ := putR11_zero h0
    have h : (strOfBytes b == strOfBytes (putR11 (key, vs)).1) = true := h
    rw [k2, beq_iff_eq] at h
    refine Leaf.mk (retG (u := ((key, vs), 0)) (v := getS b) ?_)
    rw [getS_put k1 (str_inj hB (isB_S _) h).symm]
end Go.Proofs.Ytlfehkoklgmjjaa
