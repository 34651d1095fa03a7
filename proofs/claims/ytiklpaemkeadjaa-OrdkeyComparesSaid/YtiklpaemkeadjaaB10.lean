import Derived.Test.YtiklpaemkeadjaaB9


set_option linter.unusedVariables false
set_option linter.unusedSimpArgs false
namespace Go.Proofs.Ytiklpaemkeadjaa
open Go.Eng
theorem putText_len (s : List UInt8) : (putText s).length ≤ 2 * s.length + 2 := by
  have := escI_len (bytesOfStr s)
  have e : (bytesOfStr s).length = s.length := by simp [bytesOfStr]
  simp only [putText, putB, List.length_append, List.length_cons, List.length_nil]; omega
theorem putSmall_len (n : Int) : 1 ≤ (putSmall n).length ∧ (putSmall n).length ≤ 9 := by
  have hw := widthN_le 8 n
  have hl : (layB n (widthN 8 n)).length = widthN 8 n := layB_len _ _
  simp only [putSmall, List.length_cons]; omega
theorem putText_ge (s : List UInt8) : 2 ≤ (putText s).length := by simp [putText, putB]
theorem bytes_str : ∀ (xs : List Int), isB xs → bytesOfStr (strOfBytes xs) = xs
  | [], _ => rfl
  | x :: r, h => by
    have hx := h x (by simp)
    have ih := bytes_str r (fun z hz => h z (by simp [hz]))
    show ((UInt8.ofNat x.toNat).toNat : Int) :: bytesOfStr (strOfBytes r) = _
    rw [ih, UInt8.toNat_ofNat']
    congr 1; omega
theorem str_inj {xs ys : List Int} (hx : isB xs) (hy : isB ys) (h : strOfBytes xs = strOfBytes ys) : xs = ys := by
  rw [← bytes_str xs hx, h, bytes_str ys hy]
theorem behind_facts {b m o : List Int} (hb : isB b) (ho : isB o) (hm : isB m) :
    ((behL b).2 = false → (b.length ≤ o.length ∧ strOfBytes (o.take b.length) = strOfBytes b) ∨ Lib.compareBytes (strOfBytes o) (strOfBytes b) < 0) ∧
    ((behL b).2 = true → Lib.compareBytes (strOfBytes (b ++ m)) (strOfBytes (behL b).1) < 0 ∧ ((0 ≤ Lib.compareBytes (strOfBytes o) (strOfBytes b) ∧ Lib.compareBytes (strOfBytes o) (strOfBytes (behL b).1) < 0) ↔ (b.length ≤ o.length ∧ strOfBytes (o.take b.length) = strOfBytes b))) := by
  have hs : strOfBytes (o.take b.length) = strOfBytes b ↔ o.take b.length = b := ⟨str_inj (isB_take ho _) hb, fun h => by rw [h]⟩
  rw [hs, cmpB_eq o b ho hb, behL_F]
  cases hf : behF b with
  | none =>
    refine ⟨fun _ => behF_none hb hf o ho, fun h => by simp at h⟩
  | some x =>
    refine ⟨fun h => by simp at h, fun _ => ?_⟩
    have hx := behF_isB hb hf
    simp only
    rw [cmpB_eq _ _ (isB_append hb hm) hx, cmpB_eq _ _ ho hx]
    exact ⟨behF_long m hf, behF_some hb hf o ho⟩
theorem wrap_bd (n : Int) : -9223372036854775808 ≤ IntKind.i64.wrap n ∧ IntKind.i64.wrap n ≤ 9223372036854775807 := by
  rw [IntKind.wrap_i64]; omega
theorem wrapCut {n : Nat} (h : 1 ≤ n) : ((n : Int) - 1).toNat = n - 1 := by omega
abbrev B2T : Ty := .pair BT BT
def sOrdkeyCompares : PSpec := lawSpec [BT, BT]
theorem fOrdkeyCompares : FnOk Try.prog 9 := ⟨_, Try.func9, by decide, rfl⟩
theorem pOrdkeyCompares : PSound Try.prog 9 sOrdkeyCompares := by
  refine psound (T := tab) (S := (spOf [(35, sAwake01.spec (lsOf [])), (44, sBehind.spec (lsOf [])), (45, sBehindR.spec (lsOf [])), (46, sCompare.spec (lsOf [])), (47, sCompareR.spec (lsOf []))])) (keep := k9) (by kernel_rfl) tabOk (spCons (pOk pAwake01 fAwake01 (by decide) lsNil) (spCons (pOk pBehind fBehind (by decide) lsNil) (spCons (pOk pBehindR fBehindR (by decide) lsNil) (spCons (pOk pCompare fCompare (by decide) lsNil) (spCons (pOk pCompareR fCompareR (by decide) lsNil) spNil))))) (by kernel_rfl) Try.func9 (by kernel_rfl) (by decide) fun xs hg hp => ?_
  obtain ⟨a, b, ⟨⟩⟩ := xs
  change List Int at a
  change List Int at b
  obtain ⟨⟨hl, hx⟩, ⟨hl', hy⟩, -⟩ := hg
  change ∀ x ∈ a, Eng.Good (.int .u8) x at hx
  change ∀ x ∈ b, Eng.Good (.int .u8) x at hy
  clear hl hl' hp
  have hc := cmpB_eq a b (isB_good hx) (isB_good hy)
  show vfun tab _ k9 Try.f9 [.sl (.int .u8) a, .sl (.int .u8) b] [] _
  refine Ev.out ?_
  repeat' (first | ((with_reducible refine Ev.mk ?_); conv => whnf) | (with_reducible refine And.intro ?_ ?_) | (intro h))
  all_goals first
    | exact Leaf.mk trivial
    | exact leafDraw (by kernel_rfl)
    | exact Leaf.mk rfl
    | exact Leaf.mk (show a.length ≤ 100000 by rename_i h9; have := of_decide_eq_false h9; omega)
    | exact eqSelf h
    | (change (Lib.compareBytes (strOfBytes a) (strOfBytes b) == cmpL a b) = false at h; rw [hc] at h; exact eqSelf h)
    | skip
def sOrdkeyOrder : PSpec := lawSpec [.str, .str, B2T]
theorem fOrdkeyOrder : FnOk Try.prog 10 := ⟨_, Try.func10, by decide, rfl⟩
theorem pOrdkeyOrder : PSound Try.prog 10 sOrdkeyOrder := by
  refine psound (T := tab) (S := (spOf [(35, sAwake01.spec (lsOf [])), (38, sPutText.spec (lsOf [])), (46, sCompare.spec (lsOf [])), (48, sSign.spec (lsOf []))])) (keep := k10) (by kernel_rfl) tabOk (spCons (pOk pAwake01 fAwake01 (by decide) lsNil) (spCons (pOk pPutText fPutText (by decide) lsNil) (spCons (pOk pCompare fCompare (by decide) lsNil) (spCons (pOk pSign fSign (by decide) lsNil) spNil)))) (by kernel_rfl) Try.func10 (by kernel_rfl) (by decide) fun xs hg hp => ?_
  obtain ⟨a, b, ⟨s, t⟩, ⟨⟩⟩ := xs
  change List UInt8 at a
  change List UInt8 at b
  change List Int at s
  change List Int at t
  obtain ⟨ha, hb, ⟨⟨hs, hs'⟩, ht, ht'⟩, -⟩ := hg
  change ∀ x ∈ s, Eng.Good (.int .u8) x at hs'
  change ∀ x ∈ t, Eng.Good (.int .u8) x at ht'
  clear ha hb hs ht hp
  have h1 := putText_cmp a b [] []
  have h2 := putText_cmp a b s t
  rw [List.append_nil, List.append_nil, ← cmpB_eq _ _ (isB_put a) (isB_put b)] at h1
  rw [← cmpB_eq _ _ (isB_append (isB_put a) (isB_good hs')) (isB_append (isB_put b) (isB_good ht'))] at h2
  have hla := putText_len a
  have hlb := putText_len b
  show vfun tab _ k10 Try.f10 [.s a, .s b, .agg [.sl (.int .u8) s, .sl (.int .u8) t]] [] _
  refine Ev.out ?_
  repeat' (first | ((with_reducible refine Ev.mk ?_); conv => whnf) | (with_reducible refine And.intro ?_ ?_) | (intro h))
  all_goals (try simp only [decide_eq_true_eq, decide_eq_false_iff_not, beq_iff_eq, bne_iff_ne, beq_eq_false_iff_ne, bne_eq_false_iff_eq, Int.toNat_natCast, ge_iff_le, gt_iff_lt, Bool.not_eq_true', Bool.not_eq_false', Int.not_lt, Int.not_le, ne_eq] at *)
  all_goals (try dsimp only [Ty.den, Ty.dflt, sSign, sCompare, sCompareB, sPutText, BT] at *)
  all_goals (try simp only [eq4, ne4, eq3, ne3, eq2, ne2, Prod.eta, List.length_cons, List.length_nil, List.length_append, Nat.zero_add] at *)
  all_goals (try simp (disch := omega) only [wrap64] at *)
  all_goals (try simp only [List.nil_append] at *)
  all_goals try first | exact leafDraw (by kernel_rfl) | exact Leaf.mk trivial | (refine Leaf.mk ?_; omega) | (refine Leaf.mk ?_; unfold maxLen; omega)
  all_goals try exact Leaf.mk rfl
  all_goals (simp only [sless_cmp] at *; exfalso)
  · rename_i h
    rw [h1] at h
    by_cases e : a = b
    · subst e; rw [if_pos rfl, cmpL_self, cmpL_self] at h; exact h rfl
    · rw [if_neg e] at h; exact h rfl
  · rename_i h0
    rw [h2] at h
    by_cases e : a = b
    · subst e; exact h0 (cmpL_self _)
    · rw [if_neg e] at h; exact h rfl
def sOrdkeyBehind : PSpec := lawSpec [BT, BT, BT]
theorem fOrdkeyBehind : FnOk Try.prog 11 := ⟨_, Try.func11, by decide, rfl⟩
theorem pOrdkeyBehind : PSound Try.prog 11 sOrdkeyBehind := by
  refine psound (T := tab) (S := (spOf [(35, sAwake01.spec (lsOf [])), (44, sBehind.spec (lsOf [])), (46, sCompare.spec (lsOf []))])) (keep := k11) (by kernel_rfl) tabOk (spCons (pOk pAwake01 fAwake01 (by decide) lsNil) (spCons (pOk pBehind fBehind (by decide) lsNil) (spCons (pOk pCompare fCompare (by decide) lsNil) spNil))) (by kernel_rfl) Try.func11 (by kernel_rfl) (by decide) fun xs hg hp => ?_
  obtain ⟨b, m, o, ⟨⟩⟩ := xs
  obtain ⟨⟨-, hb⟩, ⟨-, hm⟩, ⟨-, ho⟩, -⟩ := hg
  change List Int at b
  change List Int at m
  change List Int at o
  have hb := isB_good hb
  have hm := isB_good hm
  have ho := isB_good ho
  clear hp
  show vfun tab _ k11 Try.f11 [.sl (.int .u8) b, .sl (.int .u8) m, .sl (.int .u8) o] [] _
  refine Ev.out ?_
  repeat' (first | ((with_reducible refine Ev.mk ?_); conv => whnf) | (with_reducible refine And.intro ?_ ?_) | (intro h))
  all_goals (try simp only [decide_eq_true_eq, decide_eq_false_iff_not, beq_iff_eq, bne_iff_ne, beq_eq_false_iff_ne, bne_eq_false_iff_eq, Int.toNat_natCast, ge_iff_le, gt_iff_lt, Bool.not_eq_true', Bool.not_eq_false', Int.not_lt, Int.not_le, ne_eq] at *)
  all_goals (try dsimp only [Ty.den, Ty.dflt, sBehind, sCompare, sCompareB, BT] at *)
  all_goals (try simp only [eq4, ne4, eq3, ne3, eq2, ne2, Prod.eta, List.length_cons, List.length_nil, List.length_append, Nat.zero_add] at *)
  all_goals (try simp (disch := omega) only [wrap64] at *)
  all_goals (try simp only [List.nil_append, List.drop_zero, Int.reduceToNat] at *)
  all_goals try first | exact leafDraw (by kernel_rfl) | exact Leaf.mk trivial | (refine Leaf.mk ?_; omega) | (refine Leaf.mk ?_; unfold maxLen; omega)
  all_goals try exact Leaf.mk rfl
  all_goals (exfalso; obtain ⟨f1, f2⟩ := behind_facts hb ho hm)
  all_goals (try rw [show (if (o.length : Int) < (b.length : Int) then (o.length : Int) else (b.length : Int)).toNat = b.length by rw [if_neg (by omega)]; omega] at *)
  all_goals clear hb ho
  all_goals grind
def sOrdkeyNumbers : PSpec := lawSpec [.int .i64, .int .i64, .pair (.int .u64) (.int .u64)]
theorem fOrdkeyNumbers : FnOk Try.prog 13 := ⟨_, Try.func13, by decide, rfl⟩
theorem pOrdkeyNumbers : PSound Try.prog 13 sOrdkeyNumbers := by
  refine psound (T := tab) (S := (spOf [(35, sAwake01.spec (lsOf [])), (42, sPutInt.spec (lsOf [])), (46, sCompare.spec (lsOf [])), (48, sSign.spec (lsOf [])), (51, sPutSmall.spec (lsOf []))])) (keep := k13) (by kernel_rfl) tabOk (spCons (pOk pAwake01 fAwake01 (by decide) lsNil) (spCons (pOk pPutInt fPutInt (by decide) lsNil) (spCons (pOk pCompare fCompare (by decide) lsNil) (spCons (pOk pSign fSign (by decide) lsNil) (spCons (pOk pPutSmall fPutSmall (by decide) lsNil) spNil))))) (by kernel_rfl) Try.func13 (by kernel_rfl) (by decide) fun xs hg hp => ?_
  obtain ⟨a, b, ⟨n, m⟩, ⟨⟩⟩ := xs
  obtain ⟨ha, hb, ⟨hn, hm⟩, -⟩ := hg
  change Int at a
  change Int at b
  change Int at n
  change Int at m
  have ha := bd64 ha
  have hb := bd64 hb
  have hn := bdu64 hn
  have hm := bdu64 hm
  clear hp
  have h1 := putInt_cmp ha hb
  have h2 := putSmall_cmp hn hm
  rw [← cmpB_eq _ _ (isB_int a) (isB_int b)] at h1
  rw [← cmpB_eq _ _ (isB_small n) (isB_small m)] at h2
  unfold sgn at h1 h2
  show vfun tab _ k13 Try.f13 [.i .i64 a, .i .i64 b, .agg [.i .u64 n, .i .u64 m]] [] _
  refine Ev.out ?_
  repeat' (first | ((with_reducible refine Ev.mk ?_); conv => whnf) | (with_reducible refine And.intro ?_ ?_) | (intro h))
  all_goals (try simp only [decide_eq_true_eq, decide_eq_false_iff_not, beq_iff_eq, bne_iff_ne, beq_eq_false_iff_ne, bne_eq_false_iff_eq, Int.toNat_natCast, ge_iff_le, gt_iff_lt, Bool.not_eq_true', Bool.not_eq_false', Int.not_lt, Int.not_le, ne_eq] at *)
  all_goals (try dsimp only [Ty.den, Ty.dflt, sSign, sCompare, sCompareB, sPutInt, sPutSmall] at *)
  all_goals (try simp only [eq4, ne4, eq3, ne3, eq2, ne2, Prod.eta, List.length_cons, List.length_nil, List.length_append, Nat.zero_add] at *)
  all_goals (try simp (disch := omega) only [wrap64] at *)
  all_goals try first | exact leafDraw (by kernel_rfl) | exact Leaf.mk trivial | (refine Leaf.mk ?_; omega) | (refine Leaf.mk ?_; unfold maxLen; omega)
  all_goals try exact Leaf.mk rfl
  all_goals (exfalso; simp only [decide_eq_true_eq] at h; first | exact h h1 | exact h h2)
def sOrdkeyBack : PSpec := lawSpec [.str, .int .u64, BT]
theorem fOrdkeyBack : FnOk Try.prog 14 := ⟨_, Try.func14, by decide, rfl⟩
theorem pOrdkeyBack : PSound Try.prog 14 sOrdkeyBack := by
  refine psound (T := tab) (S := (spOf [(35, sAwake01.spec (lsOf [])), (38, sPutText.spec (lsOf [])), (51, sPutSmall.spec (lsOf [])), (42, sPutInt.spec (lsOf [])), (36, sGetText.spec (lsOf [])), (49, sGetSmall.spec (lsOf [])), (40, sGetInt.spec (lsOf []))])) (keep := k14) (by kernel_rfl) tabOk (spCons (pOk pAwake01 fAwake01 (by decide) lsNil) (spCons (pOk pPutText fPutText (by decide) lsNil) (spCons (pOk pPutSmall fPutSmall (by decide) lsNil) (spCons (pOk pPutInt fPutInt (by decide) lsNil) (spCons (pOk pGetText fGetText (by decide) lsNil) (spCons (pOk pGetSmall fGetSmall (by decide) lsNil) (spCons (pOk pGetInt fGetInt (by decide) lsNil) spNil))))))) (by kernel_rfl) Try.func14 (by kernel_rfl) (by decide) fun xs hg hp => ?_
  obtain ⟨s, n, b, ⟨⟩⟩ := xs
  obtain ⟨-, hn, -, -⟩ := hg
  change List UInt8 at s
  change Int at n
  change List Int at b
  have hn := bdu64 hn
  clear hp
  have hls := putText_len s
  have hlt := putSmall_len n
  have hlg := putText_ge s
  have hli : (putInt (IntKind.i64.wrap n)).length = 8 := layB_len _ _
  show vfun tab _ k14 Try.f14 [.s s, .i .u64 n, .sl (.int .u8) b] [] _
  refine Ev.out ?_
  repeat' (first | ((with_reducible refine Ev.mk ?_); conv => whnf) | (with_reducible refine And.intro ?_ ?_) | (intro h))
  all_goals (try simp only [decide_eq_true_eq, decide_eq_false_iff_not, beq_iff_eq, bne_iff_ne, beq_eq_false_iff_ne, bne_eq_false_iff_eq, Int.toNat_natCast, ge_iff_le, gt_iff_lt, Bool.not_eq_true', Bool.not_eq_false', Int.not_lt, Int.not_le, ne_eq] at *)
  all_goals (try dsimp only [Ty.den, Ty.dflt, sPutText, sPutSmall, sPutInt, sGetText, sGetSmall, sGetInt, BT] at *)
  all_goals (try simp only [eq4, ne4, eq3, ne3, eq2, ne2, Prod.eta, List.length_cons, List.length_nil, List.length_append, Nat.zero_add] at *)
  all_goals (try simp (disch := omega) only [wrap64] at *)
  all_goals (try simp only [List.nil_append, List.drop_zero, Int.reduceToNat] at *)
  all_goals try first | exact leafDraw (by kernel_rfl) | exact Leaf.mk trivial | (refine Leaf.mk ?_; omega) | (refine Leaf.mk ?_; unfold maxLen; omega)
  all_goals try exact Leaf.mk rfl
  all_goals (try simp only [wrapCut (show 1 ≤ (putText s).length by omega), wrapCut hlt.1] at *)
  all_goals (try (refine Leaf.mk ?_; rw [List.length_take]; omega))
  all_goals (exfalso; simp only [getText_put, getSmall_put hn, getInt_put (wrap_bd n), getText_cut, getSmall_cut] at *)
  all_goals first | omega | grind
end Go.Proofs.Ytiklpaemkeadjaa
