import Derived.Test.YtlfehkoklgmjjaaD3



set_option linter.unusedVariables false
set_option linter.unusedSimpArgs false
set_option maxRecDepth 8000
namespace Go.Proofs.Ytlfehkoklgmjjaa
open Go.Eng
def sAddR : PSpec := ⟨[.d TxT, .d .str], [⟨false, [.d TxT]⟩], fun x => List.length x.1 ≤ 1000, fun x => ((add x.1 x.2.1, ()), ())⟩
theorem addAt_at {k : List UInt8} {xs : Tx} {i : Nat} : addAt k xs (i + 1) = if sless (xs.getD i []) k = true then i + 1 else addAt k xs i := rfl
theorem fAddR : FnOk Try.prog 30 := ⟨_, Try.func30, by decide, rfl⟩
theorem pAddR : PSound Try.prog 30 sAddR := by
  refine psound (T := tab) (S := (spOf [(84, sHasR.spec (lsOf []))])) (keep := k30) (by kernel_rfl) tabOk (spCons (pOk pHasR fHasR (by decide) lsNil) spNil) (by kernel_rfl) Try.func30 (by kernel_rfl) (by decide) fun xs hg hp => ?_
  obtain ⟨xs, k, ⟨⟩⟩ := xs
  change List (List UInt8) at xs
  change List UInt8 at k
  change xs.length ≤ 1000 at hp
  show vfun tab _ k30 Try.f30 [.sl .str xs, .s k] [] _
  refine Ev.out ?_
  repeat' (first | ((with_reducible refine Ev.mk ?_); conv => whnf) | (with_reducible refine And.intro ?_ ?_) | (intro h))
  all_goals (try simp only [decide_eq_true_eq, decide_eq_false_iff_not, beq_iff_eq, bne_iff_ne, beq_eq_false_iff_ne, bne_eq_false_iff_eq, Int.toNat_natCast, ge_iff_le, gt_iff_lt, Bool.not_eq_true', Bool.not_eq_false', Int.not_lt, Int.not_le, ne_eq] at *)
  all_goals (try dsimp only [Ty.den, Ty.dflt, TxT, sHasR] at *)
  all_goals (try simp only [eq4, ne4, eq3, ne3, eq2, ne2, Prod.eta, List.length_cons, List.length_nil, List.length_append, Nat.zero_add] at *)
  all_goals (try simp (disch := omega) only [wrap64] at *)
  all_goals try first | exact leafDraw (by kernel_rfl) | exact Leaf.mk trivial | (refine Leaf.mk ?_; omega) | (refine Leaf.mk ?_; unfold maxLen; omega)
  · refine Leaf.mk (ret1 (show xs = add xs k from (if_pos h).symm))
  have hA : add xs k = xs.take (addAt k xs xs.length) ++ ([k] ++ xs.drop (addAt k xs xs.length)) := if_neg (by rw [show has xs k = false from h]; simp)
  refine LoopVC.on (fun i : Nat => [(7, .i .i64 i), (6, .i .i64 (addAt k xs i))]) (fun _ => []) (fun i => i ≤ xs.length) (fun i => xs.length - i) 0 rfl (by omega) ?_
  intro i hi
  have hle := addAt_le k xs i
  repeat' (first | ((with_reducible refine Ev.mk ?_); conv => whnf) | (with_reducible refine And.intro ?_ ?_) | (intro h))
  all_goals (try simp only [decide_eq_true_eq, decide_eq_false_iff_not, beq_iff_eq, bne_iff_ne, beq_eq_false_iff_ne, bne_eq_false_iff_eq, Int.toNat_natCast, ge_iff_le, gt_iff_lt, Bool.not_eq_true', Bool.not_eq_false', Int.not_lt, Int.not_le, ne_eq] at *)
  all_goals (try dsimp only [Ty.den, Ty.dflt, TxT] at *)
  all_goals (try simp only [eq4, ne4, eq3, ne3, eq2, ne2, Prod.eta, List.length_cons, List.length_nil, List.length_append, Nat.zero_add] at *)
  all_goals (try simp (disch := omega) only [wrap64] at *)
  all_goals try first | exact leafDraw (by kernel_rfl) | exact Leaf.mk trivial | (refine Leaf.mk ?_; omega) | (refine Leaf.mk ?_; unfold maxLen; omega)
  all_goals (try simp only [List.length_drop, List.length_take] at *)
  all_goals first
    | (refine Leaf.mk ?_; omega)
    | (refine Leaf.mk ?_; unfold maxLen; omega)
    | (refine Leaf.mk ⟨i + 1, ?_, by omega, by omega⟩
       rw [addAt_at]
       first
       | (rw [if_pos (by assumption)]; rfl)
       | (rw [if_neg (by rw [Bool.not_eq_true]; assumption)]; rfl))
    | (obtain rfl : i = xs.length := by omega
       refine Leaf.mk (ret1 (?_ : _ = add xs k))
       rw [hA]
       simp only [List.take_length, Int.toNat_zero, List.drop_zero, List.append_assoc])
def logC : Int → List Ent → Int
  | _, [] => 0
  | last, e :: r => if e.1 < 1 ∨ 1099511627776 < e.1 then 9 else if e.1 ≤ last ∨ rising e.2 = false then 12 else if e.2.length = 0 then 4 else logC e.1 r
section
variable {last : Int} {e : Ent} {r : List Ent}
theorem lc9 (h : e.1 < 1 ∨ 1099511627776 < e.1) : logC last (e :: r) = 9 := if_pos h
theorem lc12 (h1 : 1 ≤ e.1) (h2 : e.1 ≤ 1099511627776) (h : e.1 ≤ last ∨ rising e.2 = false) : logC last (e :: r) = 12 := by
  rw [logC, if_neg (by omega), if_pos h]
theorem lc4 (h1 : 1 ≤ e.1) (h2 : e.1 ≤ 1099511627776) (h3 : last < e.1) (h4 : rising e.2 = true) (h : e.2.length = 0) : logC last (e :: r) = 4 := by
  rw [logC, if_neg (by omega), if_neg (by rw [h4]; simp; omega), if_pos h]
theorem lcn (h1 : 1 ≤ e.1) (h2 : e.1 ≤ 1099511627776) (h3 : last < e.1) (h4 : rising e.2 = true) (h : ¬ e.2.length = 0) : logC last (e :: r) = logC e.1 r := by
  rw [logC, if_neg (by omega), if_neg (by rw [h4]; simp; omega), if_neg h]
end
def sCheck22 : PSpec := ⟨[.d (.slice EntT)], [⟨false, [.d (.int .i64)]⟩], fun _ => True, fun x => ((logC 0 x.1, ()), ())⟩
def sCheck22R : PSpec := sCheck22
theorem fCheck22 : FnOk Try.prog 24 := ⟨_, Try.func24, by decide, rfl⟩
theorem pCheck22 : PSound Try.prog 24 sCheck22 := by
  refine psound (T := tab) (S := (spOf [(79, sRising.spec (lsOf []))])) (keep := k24) (by kernel_rfl) tabOk (spCons (pOk pRising fRising (by decide) lsNil) spNil) (by kernel_rfl) Try.func24 (by kernel_rfl) (by decide) fun xs hg hp => ?_
  obtain ⟨xs, ⟨⟩⟩ := xs
  obtain ⟨⟨hl, hx⟩, -⟩ := hg
  change List Ent at xs
  change xs.length ≤ _ at hl
  have hl := len63 hl
  have hx2 : ∀ i, i < xs.length → (xs.getD i (0, [])).2.length ≤ 9223372036854775807 := fun i hi => len63 (good_at (e := EntT) hx hi ((0, []) : Ent)).2.1
  clear hp
  show vfun tab _ k24 Try.f24 [.sl EntT xs] [] _
  refine Ev.out ?_
  repeat' (first | ((with_reducible refine Ev.mk ?_); conv => whnf) | (with_reducible refine And.intro ?_ ?_) | (intro h))
  refine LoopVC.on (fun a : Nat × Int => [(8, .i .i64 a.1), (3, .i .i64 a.2)]) (fun _ => []) (fun a => a.1 ≤ xs.length ∧ logC 0 xs = logC a.2 (xs.drop a.1)) (fun a => xs.length - a.1) (0, 0) rfl ⟨by simp, rfl⟩ ?_
  intro ⟨i, last⟩ ⟨hi, he⟩
  have hx3 := hx2 i
  dsimp only at hi he ⊢
  repeat' (first | ((with_reducible refine Ev.mk ?_); conv => whnf) | (with_reducible refine And.intro ?_ ?_) | (intro h))
  all_goals (try simp only [decide_eq_true_eq, decide_eq_false_iff_not, beq_iff_eq, bne_iff_ne, beq_eq_false_iff_ne, bne_eq_false_iff_eq, Int.toNat_natCast, ge_iff_le, gt_iff_lt, Bool.not_eq_true', Bool.not_eq_false', Int.not_lt, Int.not_le, ne_eq] at *)
  all_goals (try dsimp only [Ty.den, Ty.dflt, EntT, sRising] at *)
  all_goals (try simp only [eq4, ne4, eq3, ne3, eq2, ne2, Prod.eta, List.length_cons, List.length_nil, List.length_append, Nat.zero_add] at *)
  all_goals (try simp (disch := omega) only [wrap64] at *)
  all_goals try first | exact leafDraw (by kernel_rfl) | exact Leaf.mk trivial | (refine Leaf.mk ?_; omega) | (refine Leaf.mk ?_; unfold maxLen; omega)
  all_goals (try rw [drop_end (show xs.length ≤ i by omega)] at he)
  all_goals (try rw [drop_at ((0, []) : Ent) (show i < xs.length by omega)] at he)
  · exact Leaf.mk (ret1 (he.trans (lc9 (.inl h))).symm)
  · exact Leaf.mk (ret1 (he.trans (lc9 (.inr h))).symm)
  · exact Leaf.mk (ret1 (he.trans (lc12 ‹_› ‹_› (.inl h))).symm)
  · exact Leaf.mk (ret1 (he.trans (lc12 ‹_› ‹_› (.inr h))).symm)
  · exact Leaf.mk (ret1 (he.trans (lc4 ‹_› ‹_› ‹_› ‹_› (by omega))).symm)
  · exact Leaf.mk ⟨(i + 1, _), rfl, ⟨by show i + 1 ≤ _; omega, he.trans (lcn ‹_› ‹_› ‹_› ‹_› (by omega))⟩, by show _ - (i + 1) < _; omega⟩
  · exact Leaf.mk (ret1 he.symm)
def riseB (last ts : Int) (ks : Tx) (j : Nat) : Bool := decide (last < ts) && decide (Rising ks j)
section
variable {last ts : Int} {ks : Tx} {j : Nat}
theorem rising_step (hj : 1 ≤ j) : Rising ks (j + 1) ↔ Rising ks j ∧ sless (ks.getD (j - 1) []) (ks.getD j []) = true := by
  constructor
  · intro h; exact ⟨fun m hm h1 => h m (by omega) h1, h j (by omega) hj⟩
  · intro h m hm h1
    by_cases hmj : m = j
    · subst hmj; exact h.2
    · exact h.1 m (by omega) h1
theorem riseB_step (hj : 1 ≤ j) : riseB last ts ks (j + 1) = (riseB last ts ks j && sless (ks.getD (j - 1) []) (ks.getD j [])) := by
  unfold riseB
  rw [Bool.eq_iff_iff]
  simp only [Bool.and_eq_true, decide_eq_true_eq, rising_step hj, and_assoc]
theorem riseB_end (h : ks.length ≤ j) (h2 : j ≤ ks.length ∨ j = 1) : riseB last ts ks j = (decide (last < ts) && rising ks) := by
  unfold riseB rising
  congr 1
  by_cases hj : j = ks.length
  · rw [hj]
  · have h1 : j = 1 := by omega
    have h0 : ks.length = 0 := by omega
    rw [h1, h0, decide_eq_true (show Rising ks 1 from fun m hm h1 => by omega), decide_eq_true (show Rising ks 0 from fun m hm h1 => by omega)]
theorem riseB_false (h : (decide (last < ts) && rising ks) = false) : ts ≤ last ∨ rising ks = false := by
  cases hr : rising ks
  · exact .inr rfl
  · rw [hr, Bool.and_true, decide_eq_false_iff_not] at h
    exact .inl (by omega)
theorem riseB_true (h : (decide (last < ts) && rising ks) = true) : last < ts ∧ rising ks = true := by
  rw [Bool.and_eq_true, decide_eq_true_iff] at h; exact h
end
theorem fCheck22R : FnOk Try.prog 25 := ⟨_, Try.func25, by decide, rfl⟩
theorem pCheck22R : PSound Try.prog 25 sCheck22R := by
  refine psound (T := tab) (S := (spOf [])) (keep := k25) (by kernel_rfl) tabOk spNil (by kernel_rfl) Try.func25 (by kernel_rfl) (by decide) fun xs hg hp => ?_
  obtain ⟨xs, ⟨⟩⟩ := xs
  obtain ⟨⟨hl, hx⟩, -⟩ := hg
  change List Ent at xs
  change xs.length ≤ _ at hl
  have hl := len63 hl
  have hx2 : ∀ i, i < xs.length → (xs.getD i (0, [])).2.length ≤ 9223372036854775807 := fun i hi => len63 (good_at (e := EntT) hx hi ((0, []) : Ent)).2.1
  clear hp
  show vfun tab _ k25 Try.f25 [.sl EntT xs] [] _
  refine Ev.out ?_
  repeat' (first | ((with_reducible refine Ev.mk ?_); conv => whnf) | (with_reducible refine And.intro ?_ ?_) | (intro h))
  refine LoopVC.on (fun a : Nat × Int => [(4, .i .i64 a.1), (3, .i .i64 a.2)]) (fun _ => []) (fun a => a.1 ≤ xs.length ∧ logC 0 xs = logC a.2 (xs.drop a.1)) (fun a => xs.length - a.1) (0, 0) rfl ⟨by simp, rfl⟩ ?_
  intro ⟨i, last⟩ ⟨hi, he⟩
  have hx3 := hx2 i
  dsimp only at hi he ⊢
  repeat' (first | ((with_reducible refine Ev.mk ?_); conv => whnf) | (with_reducible refine And.intro ?_ ?_) | (intro h))
  all_goals (try simp only [decide_eq_true_eq, decide_eq_false_iff_not, beq_iff_eq, bne_iff_ne, beq_eq_false_iff_ne, bne_eq_false_iff_eq, Int.toNat_natCast, ge_iff_le, gt_iff_lt, Bool.not_eq_true', Bool.not_eq_false', Int.not_lt, Int.not_le, ne_eq] at *)
  all_goals (try dsimp only [Ty.den, Ty.dflt, EntT] at *)
  all_goals (try simp only [eq4, ne4, eq3, ne3, eq2, ne2, Prod.eta, List.length_cons, List.length_nil, List.length_append, Nat.zero_add] at *)
  all_goals (try simp (disch := omega) only [wrap64] at *)
  all_goals try first | exact leafDraw (by kernel_rfl) | exact Leaf.mk trivial | (refine Leaf.mk ?_; omega) | (refine Leaf.mk ?_; unfold maxLen; omega)
  all_goals (try rw [drop_end (show xs.length ≤ i by omega)] at he)
  all_goals (try rw [drop_at ((0, []) : Ent) (show i < xs.length by omega)] at he)
  · exact Leaf.mk (ret1 (he.trans (lc9 (.inl h))).symm)
  · exact Leaf.mk (ret1 (he.trans (lc9 (.inr h))).symm)
  · have hx3 := hx3 (by omega)
    refine LoopVC.on (fun a : Nat × Option Bool => [(6, .i .i64 a.1), (5, match a.2 with | none => .bl false | some x => .b x)]) (fun _ => []) (fun a => 1 ≤ a.1 ∧ (a.1 ≤ (xs.getD i (0, [])).2.length ∨ a.1 = 1) ∧ riseB last (xs.getD i (0, [])).1 (xs.getD i (0, [])).2 a.1 = a.2.getD false) (fun a => (xs.getD i (0, [])).2.length - a.1) (1, some (decide (last < (xs.getD i (0, [])).1))) rfl ⟨by simp, .inr rfl, by simp [riseB, Rising]⟩ ?_
    intro ⟨j, k⟩ ⟨hj, hj2, hk⟩
    dsimp only at hj hj2 hk
    cases k with
    | none =>
      dsimp only [Option.getD] at hk ⊢
      repeat' (first | ((with_reducible refine Ev.mk ?_); conv => whnf) | (with_reducible refine And.intro ?_ ?_) | (intro h))
      all_goals (try simp only [decide_eq_true_eq, decide_eq_false_iff_not, beq_iff_eq, bne_iff_ne, beq_eq_false_iff_ne, bne_eq_false_iff_eq, Int.toNat_natCast, ge_iff_le, gt_iff_lt, Bool.not_eq_true', Bool.not_eq_false', Int.not_lt, Int.not_le, ne_eq] at *)
      all_goals (try dsimp only [Ty.den, Ty.dflt, EntT] at *)
      all_goals (try simp only [eq4, ne4, eq3, ne3, eq2, ne2, Prod.eta, List.length_cons, List.length_nil, List.length_append, Nat.zero_add] at *)
      all_goals (try simp (disch := omega) only [wrap64] at *)
      all_goals try first | exact leafDraw (by kernel_rfl) | exact Leaf.mk trivial | (refine Leaf.mk ?_; omega) | (refine Leaf.mk ?_; unfold maxLen; omega)
      · refine Leaf.mk ⟨(j + 1, none), rfl, ⟨by show 1 ≤ j + 1; omega, by show j + 1 ≤ _ ∨ _; omega, ?_⟩, by show _ - (j + 1) < _; omega⟩
        show riseB _ _ _ (j + 1) = false
        rw [riseB_step hj, hk]; rfl
      · rw [riseB_end (by omega) hj2] at hk
        exact Leaf.mk (ret1 (he.trans (lc12 ‹_› ‹_› (riseB_false hk))).symm)
    | some val =>
      dsimp only [Option.getD] at hk ⊢
      repeat' (first | ((with_reducible refine Ev.mk ?_); conv => whnf) | (with_reducible refine And.intro ?_ ?_) | (intro h))
      all_goals (try simp only [decide_eq_true_eq, decide_eq_false_iff_not, beq_iff_eq, bne_iff_ne, beq_eq_false_iff_ne, bne_eq_false_iff_eq, Int.toNat_natCast, ge_iff_le, gt_iff_lt, Bool.not_eq_true', Bool.not_eq_false', Int.not_lt, Int.not_le, ne_eq] at *)
      all_goals (try dsimp only [Ty.den, Ty.dflt, EntT] at *)
      all_goals (try simp only [eq4, ne4, eq3, ne3, eq2, ne2, Prod.eta, List.length_cons, List.length_nil, List.length_append, Nat.zero_add] at *)
      all_goals (try simp (disch := omega) only [wrap64] at *)
      all_goals try first | exact leafDraw (by kernel_rfl) | exact Leaf.mk trivial | (refine Leaf.mk ?_; omega) | (refine Leaf.mk ?_; unfold maxLen; omega)
      · refine Leaf.mk ⟨(j + 1, some _), rfl, ⟨by show 1 ≤ j + 1; omega, by show j + 1 ≤ _ ∨ _; omega, ?_⟩, by show _ - (j + 1) < _; omega⟩
        show riseB _ _ _ (j + 1) = sless _ _
        rw [riseB_step hj, hk, show ((j : Int) - 1).toNat = j - 1 by omega, ‹val = true›]; rfl
      · refine Leaf.mk ⟨(j + 1, none), rfl, ⟨by show 1 ≤ j + 1; omega, by show j + 1 ≤ _ ∨ _; omega, ?_⟩, by show _ - (j + 1) < _; omega⟩
        show riseB _ _ _ (j + 1) = false
        rw [riseB_step hj, hk, ‹val = false›]; rfl
      all_goals rw [riseB_end (by omega) hj2] at hk
      · exact Leaf.mk (ret1 (he.trans (lc12 ‹_› ‹_› (riseB_false (hk.trans ‹val = false›)))).symm)
      · have ht := riseB_true (hk.trans ‹val = true›)
        exact Leaf.mk (ret1 (he.trans (lc4 ‹_› ‹_› ht.1 ht.2 (by omega))).symm)
      · have ht := riseB_true (hk.trans ‹val = true›)
        exact Leaf.mk ⟨(i + 1, _), rfl, ⟨by show i + 1 ≤ _; omega, he.trans (lcn ‹_› ‹_› ht.1 ht.2 (by omega))⟩, by show _ - (i + 1) < _; omega⟩
  · exact Leaf.mk (ret1 he.symm)
end Go.Proofs.Ytlfehkoklgmjjaa
