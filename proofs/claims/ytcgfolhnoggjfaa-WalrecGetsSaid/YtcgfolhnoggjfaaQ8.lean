import Derived.Test.YtcgfolhnoggjfaaQ7
/- Texts, one behind the other. -/
set_option linter.unusedVariables false
set_option linter.unusedSimpArgs false
set_option maxRecDepth 8000
set_option maxHeartbeats 4000000
namespace Go.Proofs.Ytcgfolhnoggjfaa
open Go.Eng
def mxZ (a b : Int) : Int := if b > a then b else a
def clockF (l : List Rec) (f : Int) : Int := l.foldl (fun a r => mxZ a r.2.2.1) f
def sWClock : PSpec := ⟨[.d RsT, .d (.int .i64)], [⟨false, [.d (.int .i64)]⟩], fun x => List.length x.1 ≤ 1000, fun x => ((clockF x.1 x.2.1, ()), ())⟩
theorem fWClock : FnOk Try.prog 45 := ⟨_, Try.func45, by decide, rfl⟩
theorem pWClock : PSound Try.prog 45 sWClock := by
  refine psound (T := tab) (S := (spOf [])) (keep := k45) (by kernel_rfl) tabOk spNil (by kernel_rfl) Try.func45 (by kernel_rfl) (by decide) fun xs hg hp => ?_
  obtain ⟨l, f, ⟨⟩⟩ := xs
  change List Rec at l
  change Int at f
  change l.length ≤ 1000 at hp
  clear hg
  show vfun tab _ k45 Try.f45 [.sl RecT l, .i .i64 f] [] _
  refine Ev.out ?_
  repeat' (first | ((with_reducible refine Ev.mk ?_); conv => whnf) | (with_reducible refine And.intro ?_ ?_) | (intro h))
  all_goals (try simp only [decide_eq_true_eq, decide_eq_false_iff_not, beq_iff_eq, bne_iff_ne, beq_eq_false_iff_ne, bne_eq_false_iff_eq, Int.toNat_natCast, ge_iff_le, gt_iff_lt, Bool.not_eq_true', Bool.not_eq_false', Int.not_lt, Int.not_le, ne_eq] at *)
  all_goals (try dsimp only [Ty.den, Ty.dflt, RecT] at *)
  all_goals (try simp only [eq4, ne4, eq3, ne3, eq2, ne2, Prod.eta, List.length_cons, List.length_nil, List.length_append, Nat.zero_add] at *)
  all_goals (try simp (disch := omega) only [wrap64] at *)
  all_goals try first | exact leafDraw (by kernel_rfl) | exact Leaf.mk trivial | (refine Leaf.mk ?_; omega) | (refine Leaf.mk ?_; unfold maxLen; omega)
  refine LoopVC.on (fun i : Nat => [(1, .i .i64 (clockF (l.take i) f)), (9, .i .i64 i)]) (fun _ => []) (fun i => i ≤ l.length) (fun i => l.length - i) 0 rfl (by omega) ?_
  intro i hi
  have hat : i < l.length → clockF (l.take (i + 1)) f = mxZ (clockF (l.take i) f) (l.getD i rec0).2.2.1 := fun h => foldl_at rec0 h
  repeat' (first | ((with_reducible refine Ev.mk ?_); conv => whnf) | (with_reducible refine And.intro ?_ ?_) | (intro h))
  all_goals (try simp only [decide_eq_true_eq, decide_eq_false_iff_not, beq_iff_eq, bne_iff_ne, beq_eq_false_iff_ne, bne_eq_false_iff_eq, Int.toNat_natCast, ge_iff_le, gt_iff_lt, Bool.not_eq_true', Bool.not_eq_false', Int.not_lt, Int.not_le, ne_eq] at *)
  all_goals (try dsimp only [Ty.den, Ty.dflt, RecT] at *)
  all_goals (try simp only [eq4, ne4, eq3, ne3, eq2, ne2, Prod.eta, List.length_cons, List.length_nil, List.length_append, Nat.zero_add] at *)
  all_goals (try simp (disch := omega) only [wrap64] at *)
  all_goals try first | exact leafDraw (by kernel_rfl) | exact Leaf.mk trivial | (refine Leaf.mk ?_; omega) | (refine Leaf.mk ?_; unfold maxLen; omega)
  · refine Leaf.mk (Exists.intro (i + 1) ⟨?_, by omega, by omega⟩)
    rw [hat (by omega)]; rfl
  · refine Leaf.mk (ret1 (show clockF (l.take i) f = clockF l f from ?_))
    rw [List.take_of_length_le (by omega)]
def firstW : List Rec → Int
  | [] => 0
  | r :: l => if checkW r = 0 then firstW l else checkW r
def allF (l : List Rec) : List (List Int) × Int := if firstW l = 0 then (l.map putW, 0) else ([], firstW l)
theorem firstW_at {l : List Rec} {i : Nat} (h : i < l.length) : firstW (l.drop i) = if checkW (l.getD i rec0) = 0 then firstW (l.drop (i + 1)) else checkW (l.getD i rec0) := by
  rw [drop_at rec0 h, firstW]
theorem retA {u v : List (List Int) × Int} (h : u = v) : (some ((u.1, ()), (u.2, ()), ()) : Option ((List (List Int) × Unit) × (Int × Unit) × Unit)) = some ((v.1, ()), (v.2, ()), ()) := by rw [h]
theorem putWF_ne {r : Rec} (h : ¬ (putWF r).2 = 0) : ¬ checkW r = 0 ∧ (putWF r).2 = checkW r := by
  unfold putWF at h ⊢
  by_cases hc : checkW r = 0
  · rw [if_pos hc] at h; exact absurd rfl h
  · rw [if_neg hc]; exact ⟨hc, rfl⟩
def sWAll : PSpec := ⟨[.d RsT], [⟨false, [.d (.slice BT)]⟩, ⟨false, [.d (.int .i64)]⟩], fun x => List.length x.1 ≤ 1000 ∧ ∀ r ∈ x.1, List.length r.2.2.2.1 ≤ 1000 ∧ List.length r.2.2.2.2.2 ≤ 1000, fun x => (((allF x.1).1, ()), ((allF x.1).2, ()), ())⟩
theorem fWAll : FnOk Try.prog 47 := ⟨_, Try.func47, by decide, rfl⟩
theorem pWAll : PSound Try.prog 47 sWAll := by
  refine psound (T := tab) (S := (spOf [(37, sWPut.spec (lsOf []))])) (keep := k47) (by kernel_rfl) tabOk (spCons (pOk pWPut fWPut (by decide) lsNil) spNil) (by kernel_rfl) Try.func47 (by kernel_rfl) (by decide) fun xs hg hp => ?_
  obtain ⟨l, ⟨⟩⟩ := xs
  change List Rec at l
  change l.length ≤ 1000 ∧ ∀ r ∈ l, List.length r.2.2.2.1 ≤ 1000 ∧ List.length r.2.2.2.2.2 ≤ 1000 at hp
  obtain ⟨hp, hr⟩ := hp
  clear hg
  show vfun tab _ k47 Try.f47 [.sl RecT l] [] _
  refine Ev.out ?_
  repeat' (first | ((with_reducible refine Ev.mk ?_); conv => whnf) | (with_reducible refine And.intro ?_ ?_) | (intro h))
  all_goals (try simp only [decide_eq_true_eq, decide_eq_false_iff_not, beq_iff_eq, bne_iff_ne, beq_eq_false_iff_ne, bne_eq_false_iff_eq, Int.toNat_natCast, ge_iff_le, gt_iff_lt, Bool.not_eq_true', Bool.not_eq_false', Int.not_lt, Int.not_le, ne_eq] at *)
  all_goals (try dsimp only [Ty.den, Ty.dflt, RecT, sWPut] at *)
  all_goals (try simp only [eq4, ne4, eq3, ne3, eq2, ne2, Prod.eta, List.length_cons, List.length_nil, List.length_append, Nat.zero_add] at *)
  all_goals (try simp (disch := omega) only [wrap64] at *)
  all_goals try first | exact leafDraw (by kernel_rfl) | exact Leaf.mk trivial | (refine Leaf.mk ?_; omega) | (refine Leaf.mk ?_; unfold maxLen; omega)
  refine LoopVC.weak [(.slot 4, .nil 57 BT)] (fun i : Nat => [(11, .i .i64 i)]) (fun i => [(0, .arr 57 BT ((l.take i).map putW))]) (fun i => i ≤ l.length ∧ firstW l = firstW (l.drop i)) (fun i => l.length - i) 0 (Ev.mk ?_)
  (conv => whnf)
  refine ⟨Leaf.mk rfl, Leaf.mk ?_, ?_⟩
  · exact ⟨by omega, rfl⟩
  intro i ⟨hi, he⟩
  repeat' (first | ((with_reducible refine Ev.mk ?_); conv => whnf) | (with_reducible refine And.intro ?_ ?_) | (intro h))
  all_goals (try simp only [decide_eq_true_eq, decide_eq_false_iff_not, beq_iff_eq, bne_iff_ne, beq_eq_false_iff_ne, bne_eq_false_iff_eq, Int.toNat_natCast, ge_iff_le, gt_iff_lt, Bool.not_eq_true', Bool.not_eq_false', Int.not_lt, Int.not_le, ne_eq] at *)
  all_goals (try dsimp only [Ty.den, Ty.dflt, RecT, sWPut] at *)
  all_goals (try simp only [eq4, ne4, eq3, ne3, eq2, ne2, Prod.eta, List.length_cons, List.length_nil, List.length_append, Nat.zero_add] at *)
  all_goals (try simp (disch := omega) only [wrap64] at *)
  all_goals try first | exact leafDraw (by kernel_rfl) | exact Leaf.mk trivial | (refine Leaf.mk ?_; omega) | (refine Leaf.mk ?_; unfold maxLen; omega)
  all_goals try
    have hri := hr _ (getD_mem rec0 (show i < l.length by omega))
    dsimp only [rec0] at hri
  all_goals have htl : (l.take i).length = i := by rw [List.length_take]; omega
  all_goals first
    | (refine Leaf.mk ?_; omega)
    | (refine Leaf.mk ?_; simp only [List.length_map]; omega)
    | (refine Leaf.mk ?_; simp only [List.length_map]; unfold maxLen; omega)
    | (refine Leaf.mk (retA (u := ([], (putWF (l.getD i rec0)).2)) ?_)
       have hc := putWF_ne (r := l.getD i rec0) ‹_›
       have hf := firstW_at (show i < l.length by omega)
       rw [if_neg hc.1] at hf
       rw [allF, if_neg (by rw [he, hf]; exact hc.1), he, hf, hc.2])
    | (refine Leaf.mk (Exists.intro (i + 1) ⟨?_, ⟨by omega, ?_⟩, by omega⟩)
       · have hc := putWF_zero (r := l.getD i rec0) ‹_›
         rw [take_at rec0 (by omega), List.map_append, List.map_cons, List.map_nil, ← hc.2]; rfl
       · have hc := putWF_zero (r := l.getD i rec0) ‹_›
         rw [he, firstW_at (show i < l.length by omega), if_pos hc.1])
    | (refine Leaf.mk (retA (u := ((l.take i).map putW, 0)) ?_)
       rw [drop_end (by omega)] at he
       rw [allF, if_pos (by rw [he]; rfl), List.take_of_length_le (by omega)])
end Go.Proofs.Ytcgfolhnoggjfaa

set_option linter.unusedVariables false
set_option linter.unusedSimpArgs false
set_option maxRecDepth 8000
set_option maxHeartbeats 4000000
namespace Go.Proofs.Ytcgfolhnoggjfaa
open Go.Eng
def sAwake08 : PSpec := ⟨[], [⟨false, [.d .bool]⟩], fun _ => True, fun _ => ((true, ()), ())⟩
theorem fAwake08 : FnOk Try.prog 36 := ⟨_, Try.func36, by decide, rfl⟩
theorem pAwake08 : PSound Try.prog 36 sAwake08 := by
  refine psound (T := tab) (S := (spOf [(37, sWPut.spec (lsOf [])), (41, sWGet.spec (lsOf [])), (43, sWLive.spec (lsOf [])), (47, sWAll.spec (lsOf [])), (45, sWClock.spec (lsOf [])), (39, sWCheck.spec (lsOf []))])) (keep := k36) (by kernel_rfl) tabOk (spCons (pOk pWPut fWPut (by decide) lsNil) (spCons (pOk pWGet fWGet (by decide) lsNil) (spCons (pOk pWLive fWLive (by decide) lsNil) (spCons (pOk pWAll fWAll (by decide) lsNil) (spCons (pOk pWClock fWClock (by decide) lsNil) (spCons (pOk pWCheck fWCheck (by decide) lsNil) spNil)))))) (by kernel_rfl) Try.func36 (by kernel_rfl) (by decide) fun xs hg hp => ?_
  obtain ⟨⟩ := xs
  show vfun tab _ k36 Try.f36 [] [] _
  refine Ev.out ?_
  repeat' (first | ((with_reducible refine Ev.mk ?_); conv => whnf) | (with_reducible refine And.intro ?_ ?_) | (intro h; first | exact absurd h (by decide +kernel) | skip))
  all_goals first
    | exact Leaf.mk trivial
    | exact leafDraw (by kernel_rfl)
    | (refine Leaf.mk ?_; change _ ∧ _; decide +kernel)
    | (refine Leaf.mk ?_; change (_ : Nat) ≤ _; decide +kernel)
    | (refine Leaf.mk ?_; decide +kernel)
    | exact Leaf.mk rfl
def sWalrecGets : PSpec := lawSpec [BT]
theorem pWalrecGets : PSound Try.prog 9 sWalrecGets := by
  refine psound (T := tab) (S := (spOf [(36, sAwake08.spec (lsOf [])), (41, sWGet.spec (lsOf [])), (42, sWGetR.spec (lsOf []))])) (keep := k9) (by kernel_rfl) tabOk (spCons (pOk pAwake08 fAwake08 (by decide) lsNil) (spCons (pOk pWGet fWGet (by decide) lsNil) (spCons (pOk pWGetR fWGetR (by decide) lsNil) spNil))) (by kernel_rfl) Try.func9 (by kernel_rfl) (by decide) fun xs hg hp => ?_
  obtain ⟨b, ⟨⟩⟩ := xs
  clear hp
  change List Int at b
  show vfun tab _ k9 Try.f9 [.sl (.int .u8) b] [] _
  refine Ev.out ?_
  repeat' (first | ((with_reducible refine Ev.mk ?_); conv => whnf) | (with_reducible refine And.intro ?_ ?_) | (intro h))
  all_goals (try simp only [decide_eq_true_eq, decide_eq_false_iff_not, beq_iff_eq, bne_iff_ne, beq_eq_false_iff_ne, bne_eq_false_iff_eq, Int.toNat_natCast, ge_iff_le, gt_iff_lt, Bool.not_eq_true', Bool.not_eq_false', Int.not_lt, Int.not_le, ne_eq] at *)
  all_goals (try dsimp only [Ty.den, Ty.dflt, RecT] at *)
  all_goals (try simp only [eq4, ne4, eq3, ne3, eq2, ne2, Prod.eta, List.length_cons, List.length_nil, List.length_append, Nat.zero_add] at *)
  all_goals (try simp (disch := omega) only [wrap64] at *)
  all_goals try first | exact leafDraw (by kernel_rfl) | exact Leaf.mk trivial | (refine Leaf.mk ?_; omega) | (refine Leaf.mk ?_; unfold maxLen; omega)
  all_goals first
    | exact Leaf.mk trivial
    | exact Leaf.mk rfl
    | exact absurd rfl h
    | skip
  all_goals first
    | exact Leaf.mk (show List.length (α := Int) b ≤ 50000 by omega)
    | exact absurd rfl (neR6.1 (show (_ == _ && _) = false from ‹_›))
end Go.Proofs.Ytcgfolhnoggjfaa
