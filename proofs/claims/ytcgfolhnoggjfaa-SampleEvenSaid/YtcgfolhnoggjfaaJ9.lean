import Derived.Test.YtcgfolhnoggjfaaJ8



set_option linter.unusedVariables false
set_option linter.unusedSimpArgs false
set_option maxRecDepth 8000
set_option maxHeartbeats 4000000
namespace Go.Proofs.Ytcgfolhnoggjfaa
open Go.Eng
theorem sle_not (x b : List UInt8) : (sless x b || x == b) = !sless b x := by
  cases h : sless b x with
  | true =>
    have h1 := sless_iff.1 h
    have h2 : sless x b = false := by rw [sless_eq]; exact decide_eq_false (slt_asymm h1)
    have h3 : ¬ x = b := fun hc => by rw [hc] at h1; exact slt_irrefl _ h1
    simp [h2, h3]
  | false =>
    by_cases h1 : x < b
    · simp [sless_iff.2 h1]
    · have : x = b := slt_total h1 (fun hc => by rw [sless_iff.2 hc] at h; cases h)
      simp [this]
theorem ok_yes {a b : Str} {n : Nat} (h : (aftF a n).2 = true) (h2 : (sless (aftF a n).1 b || (aftF a n).1 == b) = true) : okN a b n = true := by
  rw [sle_not] at h2; rw [okN, h, h2]; rfl
theorem ok_no {a b : Str} {n : Nat} (h2 : (sless (aftF a n).1 b || (aftF a n).1 == b) = false) : okN a b n = false := by
  rw [sle_not] at h2; rw [okN, h2, Bool.and_false]
theorem ok_no' {a b : Str} {n : Nat} (h : (aftF a n).2 = false) : okN a b n = false := by rw [okN, h]; rfl
theorem fromN_last {a b : Str} (h : okN a b (List.length b) = false) : fromN a b (List.length b) = b := by
  rw [fromN_no (Nat.le_refl _) h]; exact fromN_end
def sShortest : PSpec := ⟨[.d .str, .d .str], [⟨false, [.d .str]⟩], fun x => List.length x.1 ≤ 1000 ∧ List.length x.2.1 ≤ 1000, fun x => ((fromN x.1 x.2.1 (List.length x.2.1), ()), ())⟩
theorem fShortest : FnOk Try.prog 52 := ⟨_, Try.func52, by decide, rfl⟩
theorem pShortest : PSound Try.prog 52 sShortest := by
  refine psound (T := tab) (S := (spOf [(51, sAbove.spec (lsOf []))])) (keep := k52) (by kernel_rfl) tabOk (spCons (pOk pAbove fAbove (by decide) lsNil) spNil) (by kernel_rfl) Try.func52 (by kernel_rfl) (by decide) fun xs hg hp => ?_
  obtain ⟨a, b, ⟨⟩⟩ := xs
  change Str at a b
  change a.length ≤ 1000 ∧ b.length ≤ 1000 at hp
  clear hg
  show vfun tab _ k52 Try.f52 [.s a, .s b] [] _
  refine Ev.out ?_
  repeat' (first | ((with_reducible refine Ev.mk ?_); conv => whnf) | (with_reducible refine And.intro ?_ ?_) | (intro h))
  all_goals (try simp only [decide_eq_true_eq, decide_eq_false_iff_not, beq_iff_eq, bne_iff_ne, beq_eq_false_iff_ne, bne_eq_false_iff_eq, Int.toNat_natCast, ge_iff_le, gt_iff_lt, Bool.not_eq_true', Bool.not_eq_false', Int.not_lt, Int.not_le, ne_eq] at *)
  all_goals (try dsimp only [Ty.den, Ty.dflt, StrT] at *)
  all_goals (try simp only [eq4, ne4, eq3, ne3, eq2, ne2, Prod.eta, List.length_cons, List.length_nil, List.length_append, Nat.zero_add] at *)
  all_goals (try simp (disch := omega) only [wrap64] at *)
  all_goals try first | exact leafDraw (by kernel_rfl) | exact Leaf.mk trivial | (refine Leaf.mk ?_; omega) | (refine Leaf.mk ?_; unfold maxLen; omega)
  · exact Leaf.mk (show a.length ≤ 1000 ∧ 0 ≤ ((b.length : Nat) : Int) ∧ ((b.length : Nat) : Int) ≤ 1000 by omega)
  all_goals refine Leaf.mk (ret1 (show _ = fromN a b (List.length b) from ?_))
  · exact (fromN_yes (Nat.le_refl _) (ok_yes ‹_› ‹_›)).symm
  · exact (fromN_last (ok_no ‹_›)).symm
  · exact (fromN_last (ok_no' ‹_›)).symm
def sBetween : PSpec := ⟨[.d .str, .d .str], [⟨false, [.d .str]⟩], fun x => List.length x.1 ≤ 1000 ∧ List.length x.2.1 ≤ 1000, fun x => ((betweenF x.1 x.2.1, ()), ())⟩
theorem fBetween : FnOk Try.prog 21 := ⟨_, Try.func21, by decide, rfl⟩
theorem pBetween : PSound Try.prog 21 sBetween := by
  refine psound (T := tab) (S := (spOf [(51, sAbove.spec (lsOf [])), (52, sShortest.spec (lsOf []))])) (keep := k21) (by kernel_rfl) tabOk (spCons (pOk pAbove fAbove (by decide) lsNil) (spCons (pOk pShortest fShortest (by decide) lsNil) spNil)) (by kernel_rfl) Try.func21 (by kernel_rfl) (by decide) fun xs hg hp => ?_
  obtain ⟨a, b, ⟨⟩⟩ := xs
  change Str at a b
  change a.length ≤ 1000 ∧ b.length ≤ 1000 at hp
  clear hg
  show vfun tab _ k21 Try.f21 [.s a, .s b] [] _
  refine Ev.out ?_
  repeat' (first | ((with_reducible refine Ev.mk ?_); conv => whnf) | (with_reducible refine And.intro ?_ ?_) | (intro h))
  all_goals (try simp only [decide_eq_true_eq, decide_eq_false_iff_not, beq_iff_eq, bne_iff_ne, beq_eq_false_iff_ne, bne_eq_false_iff_eq, Int.toNat_natCast, ge_iff_le, gt_iff_lt, Bool.not_eq_true', Bool.not_eq_false', Int.not_lt, Int.not_le, ne_eq] at *)
  all_goals (try dsimp only [Ty.den, Ty.dflt, StrT] at *)
  all_goals (try simp only [eq4, ne4, eq3, ne3, eq2, ne2, Prod.eta, List.length_cons, List.length_nil, List.length_append, Nat.zero_add] at *)
  all_goals (try simp (disch := omega) only [wrap64] at *)
  all_goals try first | exact leafDraw (by kernel_rfl) | exact Leaf.mk trivial | (refine Leaf.mk ?_; omega) | (refine Leaf.mk ?_; unfold maxLen; omega)
  · exact Leaf.mk (ret1 (show b = betweenF a b by rw [betweenF, if_neg (by rw [h]; simp)]))
  have hab := sless_iff.1 h
  have hB : betweenF a b = fromN a b 1 := if_pos h
  clear h
  refine LoopVC.on (fun k : Nat => [(5, .i .i64 k)]) (fun _ => []) (fun k => k ≤ a.length ∧ k ≤ b.length ∧ a.take k = List.take k b) (fun k => a.length - k) 0 rfl ⟨by omega, by omega, rfl⟩ ?_
  intro k ⟨hka, hkb, hk⟩
  obtain ⟨hkb', hge⟩ := pre_lt hk hab hka hkb
  repeat' (first | ((with_reducible refine Ev.mk ?_); conv => whnf) | (with_reducible refine And.intro ?_ ?_) | (intro h))
  all_goals (try simp only [decide_eq_true_eq, decide_eq_false_iff_not, beq_iff_eq, bne_iff_ne, beq_eq_false_iff_ne, bne_eq_false_iff_eq, Int.toNat_natCast, ge_iff_le, gt_iff_lt, Bool.not_eq_true', Bool.not_eq_false', Int.not_lt, Int.not_le, ne_eq] at *)
  all_goals (try dsimp only [Ty.den, Ty.dflt, StrT] at *)
  all_goals (try simp only [eq4, ne4, eq3, ne3, eq2, ne2, Prod.eta, List.length_cons, List.length_nil, List.length_append, Nat.zero_add] at *)
  all_goals (try simp (disch := omega) only [wrap64] at *)
  all_goals try first | exact leafDraw (by kernel_rfl) | exact Leaf.mk trivial | (refine Leaf.mk ?_; omega) | (refine Leaf.mk ?_; unfold maxLen; omega)
  all_goals try
    have hne := ‹¬ (((List.getD a k 0).toNat : Nat) : Int) = (((List.getD b k 0).toNat : Nat) : Int)›
    have hac : k < a.length := by omega
    have hge := hge hac
    rw [UInt8.lt_iff_toNat_lt] at hge
    have hbt := (List.getD b k 0).toNat_lt
    have hw : IntKind.u8.wrap ((((List.getD a k 0).toNat : Nat) : Int) + 1) = (((List.getD a k 0).toNat : Nat) : Int) + 1 := by rw [wrapU8, Int.emod_eq_of_lt (by omega) (by omega)]
    simp only [hw] at *
  all_goals try first
    | (refine Leaf.mk ⟨k + 1, rfl, ⟨by omega, by omega, pre_step hk (by omega) hkb' ?_⟩, by omega⟩
       have := ‹(((List.getD a k 0).toNat : Nat) : Int) = (((List.getD b k 0).toNat : Nat) : Int)›
       rw [← UInt8.toNat_inj]; omega)
    | (refine Leaf.mk ?_
       rw [List.length_drop, List.length_take]
       show _ + 1 ≤ maxLen
       unfold maxLen; omega)
    | (refine Leaf.mk (ret1 (show _ = betweenF a b from ?_))
       rw [hB, quick hk hac hkb' (by omega), Int.toNat_zero, List.drop_zero])
  all_goals
    have hs : betweenF a b = fromN a b (k + 1) := hB.trans (skip_all hk hka hkb)
    clear hab hB hk
    refine LoopVC.on (fun n : Nat => [(6, .i .i64 n)]) (fun _ => []) (fun n => n ≤ b.length ∧ betweenF a b = fromN a b n) (fun n => b.length - n) (k + 1) rfl ⟨by omega, hs⟩ ?_
    intro n ⟨hn, hq⟩
    repeat' (first | ((with_reducible refine Ev.mk ?_); conv => whnf) | (with_reducible refine And.intro ?_ ?_) | (intro h))
    all_goals (try simp only [decide_eq_true_eq, decide_eq_false_iff_not, beq_iff_eq, bne_iff_ne, beq_eq_false_iff_ne, bne_eq_false_iff_eq, Int.toNat_natCast, ge_iff_le, gt_iff_lt, Bool.not_eq_true', Bool.not_eq_false', Int.not_lt, Int.not_le, ne_eq] at *)
    all_goals (try dsimp only [Ty.den, Ty.dflt, StrT] at *)
    all_goals (try simp only [eq4, ne4, eq3, ne3, eq2, ne2, Prod.eta, List.length_cons, List.length_nil, List.length_append, Nat.zero_add] at *)
    all_goals (try simp (disch := omega) only [wrap64] at *)
    all_goals try first | exact leafDraw (by kernel_rfl) | exact Leaf.mk trivial | (refine Leaf.mk ?_; omega) | (refine Leaf.mk ?_; unfold maxLen; omega)
    all_goals first
      | exact Leaf.mk (show a.length ≤ 1000 ∧ 0 ≤ ((n : Nat) : Int) ∧ ((n : Nat) : Int) ≤ 1000 by omega)
      | exact Leaf.mk (show a.length ≤ 1000 ∧ b.length ≤ 1000 by omega)
      | (refine Leaf.mk (ret1 (show _ = betweenF a b from ?_))
         rw [hq]
         first
         | exact (fromN_yes hn (ok_yes ‹_› ‹_›)).symm
         | (rw [show n = b.length by omega]; rfl))
      | (refine Leaf.mk (Exists.intro (n + 1) ⟨rfl, ⟨by omega, hq.trans (fromN_no hn ?_)⟩, by omega⟩)
         first
         | exact ok_no ‹_›
         | exact ok_no' ‹_›)
      | omega
end Go.Proofs.Ytcgfolhnoggjfaa
