import Derived.Test.YtoedpnniaikfbaaH9



set_option linter.unusedVariables false
set_option linter.unusedSimpArgs false
set_option maxRecDepth 8000
set_option maxHeartbeats 4000000
namespace Go.Proofs.Ytoedpnniaikfbaa
open Go.Eng
def sHasPrefix : PSpec := ⟨[.d BT, .d BT], [⟨false, [.d .bool]⟩], fun _ => True, fun x => ((hasPre x.1 x.2.1, ()), ())⟩
theorem fHasPrefix : FnOk Try.prog 87 := ⟨_, Try.func87, by decide, rfl⟩
theorem pHasPrefix : PSound Try.prog 87 sHasPrefix := by
  refine psound (T := tab) (S := (spOf [(132, sBEqual.spec (lsOf []))])) (keep := k87) (by kernel_rfl) tabOk (spCons (pOk pBEqual fBEqual (by decide) lsNil) spNil) (by kernel_rfl) Try.func87 (by kernel_rfl) (by decide) fun xs hg hp => ?_
  obtain ⟨b, c, ⟨⟩⟩ := xs
  change List Int at b c
  show vfun tab _ k87 Try.f87 [.sl (.int .u8) b, .sl (.int .u8) c] [] _
  refine Ev.out ?_
  repeat' (first | ((with_reducible refine Ev.mk ?_); conv => whnf) | (with_reducible refine And.intro ?_ ?_) | (intro h))
  all_goals (try simp only [decide_eq_true_eq, decide_eq_false_iff_not, beq_iff_eq, bne_iff_ne, beq_eq_false_iff_ne, bne_eq_false_iff_eq, Int.toNat_natCast, ge_iff_le, gt_iff_lt, Bool.not_eq_true', Bool.not_eq_false', Int.not_lt, Int.not_le, ne_eq] at *)
  all_goals (try dsimp only [Ty.den, Ty.dflt, MsgT, sBEqual] at *)
  all_goals (try simp only [eq4, ne4, eq3, ne3, eq2, ne2, Prod.eta, List.length_cons, List.length_nil, List.length_append, Nat.zero_add] at *)
  all_goals (try simp (disch := omega) only [wrap64] at *)
  all_goals try first | exact leafDraw (by kernel_rfl) | exact Leaf.mk trivial | (refine Leaf.mk ?_; omega) | (refine Leaf.mk ?_; unfold maxLen; omega)
  · refine Leaf.mk (ret1 (show _ = hasPre b c from ?_))
    rw [hasPre, decide_eq_true (by omega), Bool.true_and, Int.toNat_zero, List.drop_zero]
  · refine Leaf.mk (ret1 (show _ = hasPre b c from ?_))
    rw [hasPre, decide_eq_false (by omega), Bool.false_and]
def sMGet : PSpec := ⟨[.d BT], [⟨true, [.d MsgT]⟩, ⟨false, [.d (.int .i64)]⟩, ⟨false, [.d (.int .i64)]⟩], fun x => List.length (α := Int) x.1 ≤ 100000, fun x => (((getM x.1).1, ()), ((getM x.1).2.1, ()), ((getM x.1).2.2, ()), ())⟩
def sMGetR : PSpec := sMGet
theorem retM {u v : Msg × Int × Int} (h : u = v) : (some ((u.1, ()), (u.2.1, ()), (u.2.2, ()), ()) : Option ((Msg × Unit) × (Int × Unit) × (Int × Unit) × Unit)) = some ((v.1, ()), (v.2.1, ()), (v.2.2, ()), ()) := by rw [h]
theorem suf_cutk (k : Int) {X r : List Int} (h : X <:+ r) : (k :: r).drop (((r.length + 1 : Nat) : Int) - ((X.length : Nat) : Int)).toNat = X := by
  obtain ⟨t, rfl⟩ := h
  rw [show (((t ++ X).length + 1 : Nat) : Int) - ((X.length : Nat) : Int) = ((t.length + 1 : Nat) : Int) by rw [List.length_append]; omega, Int.toNat_natCast, List.drop_succ_cons, List.drop_left]
theorem cut_all {α : Type} (l : List α) : l.take l.length = l := List.take_length
theorem fMGetR : FnOk Try.prog 34 := ⟨_, Try.func34, by decide, rfl⟩
theorem pMGetR : PSound Try.prog 34 sMGetR := by
  refine psound (T := tab) (S := (spOf [(88, sRText.spec (lsOf [])), (89, sRSmall.spec (lsOf [])), (32, sMPutR.spec (lsOf []))])) (keep := k34) (by kernel_rfl) tabOk (spCons (pOk pRText fRText (by decide) lsNil) (spCons (pOk pRSmall fRSmall (by decide) lsNil) (spCons (pOk pMPutR fMPutR (by decide) lsNil) spNil))) (by kernel_rfl) Try.func34 (by kernel_rfl) (by decide) fun xs hg hp => ?_
  obtain ⟨b, ⟨⟩⟩ := xs
  obtain ⟨⟨-, hx⟩, -⟩ := hg
  change List Int at b
  change b.length ≤ 100000 at hp
  have hB : isB b := isB_good hx
  clear hx
  cases b with
  | nil =>
  show vfun tab _ k34 Try.f34 [.sl (.int .u8) []] [] _
  refine Ev.out ?_
  repeat' (first | ((with_reducible refine Ev.mk ?_); conv => whnf) | (with_reducible refine And.intro ?_ ?_) | (intro h))
  all_goals try first | exact leafDraw (by kernel_rfl) | exact Leaf.mk trivial | (refine Leaf.mk ?_; omega) | (refine Leaf.mk ?_; unfold maxLen; omega)
  all_goals first
    | exact Leaf.mk (retM (u := (msg0, 0, 4)) (v := getM []) rfl)
    | exact absurd ‹((([] : List Int).length : Int) == 0) = false› (by decide)
  | cons k r =>
  show vfun tab _ k34 Try.f34 [.sl (.int .u8) (k :: r)] [] _
  refine Ev.out ?_
  repeat' (first | ((with_reducible refine Ev.mk ?_); conv => whnf) | (with_reducible refine And.intro ?_ ?_) | (intro h; (try simp only [beq_iff_eq, bne_iff_ne, beq_eq_false_iff_ne, bne_eq_false_iff_eq, decide_eq_true_eq, decide_eq_false_iff_not, ne_eq, Int.not_lt, Int.not_le, Bool.not_eq_true', Bool.not_eq_false'] at h); try (exfalso; omega)))
  all_goals try exact leafDraw (by kernel_rfl)
  all_goals try simp only [List.getD_cons_zero, Int.toNat_zero, show Int.toNat 1 = 1 from rfl, Int.toNat_natCast, cut_all, List.drop_succ_cons, List.drop_zero] at *
  all_goals try exact Leaf.mk trivial
  all_goals (try simp only [decide_eq_true_eq, decide_eq_false_iff_not, beq_iff_eq, bne_iff_ne, beq_eq_false_iff_ne, bne_eq_false_iff_eq, Int.toNat_natCast, ge_iff_le, gt_iff_lt, Bool.not_eq_true', Bool.not_eq_false', Int.not_lt, Int.not_le, ne_eq] at *)
  all_goals (try dsimp only [Ty.den, Ty.dflt, MsgT, sRText, sRSmall, sMPutR, sMPut] at *)
  all_goals (try simp only [eq4, ne4, eq3, ne3, eq2, ne2, Prod.eta, List.length_cons, List.length_nil, List.length_append, Nat.zero_add] at *)
  all_goals (try simp (disch := omega) only [wrap64] at *)
  all_goals try first | exact leafDraw (by kernel_rfl) | exact Leaf.mk trivial | (refine Leaf.mk ?_; omega) | (refine Leaf.mk ?_; unfold maxLen; omega)
  all_goals
    have hk0 : 0 ≤ k := (hB k List.mem_cons_self).1
    have hrl : r.length + 1 ≤ 100000 := hp
    have hs1 := suf_len (rdText_suf r 0 16)
    have hs2 := suf_len (rdSmall_suf (rdText r 0 16).2.1 (rdText r 0 16).2.2)
  all_goals
    have hs3 := suf_len (rdSmall_suf r 0)
    have hs4 := suf_len (rdSmall_suf (rdSmall r 0).2.1 (rdSmall r 0).2.2)
    have hcut := suf_cutk k ((rdSmall_suf (rdText r 0 16).2.1 (rdText r 0 16).2.2).trans (rdText_suf r 0 16))
  all_goals try rw [wrap64 (by omega)] at *
  all_goals try simp only [hcut] at *
  all_goals try (refine Leaf.mk ?_; first | omega | (rw [List.length_drop]; omega))
  all_goals first
    | refine Leaf.mk (retM (u := (msg0, 0, 4)) (v := getM (k :: r)) ((fin_of hB ?_ ?_).bad ‹¬ (putR12 _).2 = 0›))
    | refine Leaf.mk (retM (u := (msg0, 0, 4)) (v := getM (k :: r)) ((fin_of hB ?_ ?_).nol ‹(putR12 _).2 = 0› ‹_ < _›))
    | refine Leaf.mk (retM (u := (msg0, 0, 4)) (v := getM (k :: r)) ((fin_of hB ?_ ?_).nos ‹(putR12 _).2 = 0› ‹¬ strOfBytes _ = _›))
    | refine Leaf.mk (retM (u := (msg0, 0, 4)) (v := getM (k :: r)) ((fin_of hB ?_ ?_).nop ‹(putR12 _).2 = 0› ‹hasPre _ _ = false›))
    | refine Leaf.mk (retM (u := (_, _, 0)) (v := getM (k :: r)) ((fin_of hB ?_ ?_).yess ‹(putR12 _).2 = 0› ‹strOfBytes _ = _›))
    | refine Leaf.mk (retM (u := (_, _, 0)) (v := getM (k :: r)) ((fin_of hB ?_ ?_).yesp ‹(putR12 _).2 = 0› ‹hasPre _ _ = true›))
  all_goals try exact rfl
  all_goals
    intro x s hx ok q
    have hts := q.ts
    have hk3 := ok.kind
    rw [hx] at hts hk3
  all_goals first
    | (exfalso; omega)
    | (have hkk : k = 0 := by omega
       subst hkk)
    | (have hkk : k = 1 := by omega
       subst hkk)
    | (have hkk : k = 2 := by omega
       subst hkk)
    | (have hkk : k = 3 := by omega
       subst hkk)
  all_goals
    simp only [rdTs, rdTxn, rdKey, readM, if_true, if_false, Int.reduceEq, true_or, or_true, false_or, or_false, true_and, false_and] at hts ⊢
  all_goals try exact rfl
  all_goals try (rw [if_pos (by omega)]; done)
  all_goals try (rw [if_neg (by omega)]; done)
  all_goals try (rw [if_pos (by omega)]; simp_all; done)
  all_goals try (exfalso; exact absurd (congrArg (fun p : Int × List Int × Int => p.2.2) hts) ‹¬ (rdSmall _ _).2.2 = 0›)
end Go.Proofs.Ytoedpnniaikfbaa
