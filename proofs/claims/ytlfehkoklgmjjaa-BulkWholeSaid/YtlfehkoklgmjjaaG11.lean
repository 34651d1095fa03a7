import Derived.Test.YtlfehkoklgmjjaaG10


set_option linter.unusedVariables false
set_option linter.unusedSimpArgs false
set_option maxRecDepth 8000
set_option maxHeartbeats 4000000
namespace Go.Proofs.Ytlfehkoklgmjjaa
open Go.Eng
theorem sum_at {xs : List Int} {j : Nat} (h : j < xs.length) : (xs.take (j + 1)).sum = (xs.take j).sum + xs.getD j 0 := by
  rw [take_at 0 h, List.sum_append]; simp
theorem p3_pos : ∀ a : Nat, (0 : Int) < 3 ^ a
  | 0 => by decide
  | a + 1 => by rw [Int.pow_succ]; have := p3_pos a; omega
theorem p3_mono {a : Nat} : ∀ {b : Nat}, a ≤ b → (3 : Int) ^ a ≤ 3 ^ b
  | 0, h => by rw [show a = 0 by omega]; exact Int.le_refl _
  | b + 1, h => by
    rcases Nat.lt_or_ge a (b + 1) with h1 | h1
    · have := p3_mono (a := a) (b := b) (by omega)
      have := p3_pos b
      rw [Int.pow_succ]; omega
    · rw [show a = b + 1 by omega]; exact Int.le_refl _
theorem plan_at {k0 k : Int} {i : Nat} (h : (plan k0).drop i = plan k) (hi : i < (plan k0).length) : 1 < k ∧ (plan k0).getD i [] = groups k ∧ (plan k0).drop (i + 1) = plan ((groups k).length : Nat) := by
  rw [drop_at [] hi] at h
  by_cases h1 : 1 < k
  · rw [plan_step h1] at h
    injection h with h2 h3
    exact ⟨h1, h2, h3⟩
  · rw [plan_end h1] at h; exact absurd h (by simp)
def sBulkGroups : PSpec := lawSpec [.int .u16]
theorem fBulkGroups : FnOk Try.prog 13 := ⟨_, Try.func13, by decide, rfl⟩
theorem pBulkGroups : PSound Try.prog 13 sBulkGroups := by
  refine psound (T := tab) (S := (spOf [(61, sAwake19.spec (lsOf [])), (67, sPlan.spec (lsOf []))])) (keep := k13) (by kernel_rfl) tabOk (spCons (pOk pAwake19 fAwake19 (by decide) lsNil) (spCons (pOk pPlan fPlan (by decide) lsNil) spNil)) (by kernel_rfl) Try.func13 (by kernel_rfl) (by decide) fun xs hg hp => ?_
  obtain ⟨n, ⟨⟩⟩ := xs
  obtain ⟨hn, -⟩ := hg
  change Int at n
  clear hp
  show vfun tab _ k13 Try.f13 [.i .u16 n] [] _
  refine Ev.out ?_
  repeat' (first | ((with_reducible refine Ev.mk ?_); conv => whnf) | (with_reducible refine And.intro ?_ ?_) | (intro h))
  all_goals (try simp only [decide_eq_true_eq, decide_eq_false_iff_not, beq_iff_eq, bne_iff_ne, beq_eq_false_iff_ne, bne_eq_false_iff_eq, Int.toNat_natCast, ge_iff_le, gt_iff_lt, Bool.not_eq_true', Bool.not_eq_false', Int.not_lt, Int.not_le, ne_eq] at *)
  all_goals (try dsimp only [Ty.den, Ty.dflt, IsT] at *)
  all_goals (try simp only [eq4, ne4, eq3, ne3, eq2, ne2, Prod.eta, List.length_cons, List.length_nil, List.length_append, Nat.zero_add] at *)
  all_goals (try simp (disch := omega) only [wrap64] at *)
  all_goals try first | exact leafDraw (by kernel_rfl) | exact Leaf.mk trivial | (refine Leaf.mk ?_; omega) | (refine Leaf.mk ?_; unfold maxLen; omega)
  all_goals
    have hn : 0 ≤ n ∧ n ≤ 65535 := hn
    rw [Int.tmod_eq_emod_of_nonneg (by omega)]
  · exact Leaf.mk ((inK_iff .u16 _).2 ⟨show (0 : Int) ≤ _ by omega, show _ ≤ (65535 : Int) by omega⟩)
  rw [wrap64 (by omega)]
  obtain ⟨k0, hk0⟩ : ∃ k0, k0 = n % 3001 := ⟨_, rfl⟩
  have hb : 0 ≤ k0 ∧ k0 ≤ 3000 := by omega
  rw [← hk0]
  rw [show (sPlan.fn (k0, ())).1.1 = plan k0 from rfl]
  have hpl := plan_len k0
  refine LoopVC.on (fun a : Nat × Int => [(3, .i .i64 a.2), (5, .i .i64 a.1)]) (fun _ => []) (fun a => (plan k0).drop a.1 = plan a.2 ∧ (0 ≤ a.2 ∧ a.2 ≤ 3000) ∧ a.1 ≤ (plan k0).length ∧ (a.2 = k0 ∨ 1 ≤ a.2)) (fun a => (plan k0).length - a.1) (0, k0) rfl ⟨rfl, by dsimp only; omega, by dsimp only; omega, .inl rfl⟩ ?_
  intro ⟨i, k⟩ ⟨he, hk, hi, hk1⟩
  dsimp only at he hk hi hk1 ⊢
  have hat := plan_at he
  repeat' (first | ((with_reducible refine Ev.mk ?_); conv => whnf) | (with_reducible refine And.intro ?_ ?_) | (intro h))
  all_goals (try simp only [decide_eq_true_eq, decide_eq_false_iff_not, beq_iff_eq, bne_iff_ne, beq_eq_false_iff_ne, bne_eq_false_iff_eq, Int.toNat_natCast, ge_iff_le, gt_iff_lt, Bool.not_eq_true', Bool.not_eq_false', Int.not_lt, Int.not_le, ne_eq] at *)
  all_goals (try dsimp only [Ty.den, Ty.dflt, IsT] at *)
  all_goals (try simp only [eq4, ne4, eq3, ne3, eq2, ne2, Prod.eta, List.length_cons, List.length_nil, List.length_append, Nat.zero_add] at *)
  all_goals (try simp (disch := omega) only [wrap64] at *)
  all_goals try first | exact leafDraw (by kernel_rfl) | exact Leaf.mk trivial | (refine Leaf.mk ?_; omega) | (refine Leaf.mk ?_; unfold maxLen; omega)
  · obtain ⟨hk2, hpi, hdr⟩ := hat (by omega)
    have hg := gok hk2 (by omega)
    have hgl := hg.len
    refine LoopVC.on (fun j : Nat => [(6, .i .i64 ((groups k).take j).sum), (7, .i .i64 j)]) (fun _ => []) (fun j => j ≤ (groups k).length ∧ 0 ≤ ((groups k).take j).sum ∧ ((groups k).take j).sum ≤ 6 * j) (fun j => (groups k).length - j) 0 rfl ⟨by omega, by simp, by simp⟩ ?_
    intro j ⟨hj, hs0, hs6⟩
    have hge := hg.each j
    have hsum := fun h : j < (groups k).length => sum_at (xs := groups k) h
    repeat' (first | ((with_reducible refine Ev.mk ?_); conv => whnf) | (with_reducible refine And.intro ?_ ?_) | (intro h))
    all_goals (try simp only [decide_eq_true_eq, decide_eq_false_iff_not, beq_iff_eq, bne_iff_ne, beq_eq_false_iff_ne, bne_eq_false_iff_eq, Int.toNat_natCast, ge_iff_le, gt_iff_lt, Bool.not_eq_true', Bool.not_eq_false', Int.not_lt, Int.not_le, ne_eq] at *)
    all_goals (try dsimp only [Ty.den, Ty.dflt, IsT] at *)
    all_goals (try simp only [eq4, ne4, eq3, ne3, eq2, ne2, Prod.eta, List.length_cons, List.length_nil, List.length_append, Nat.zero_add] at *)
    all_goals (try simp (disch := omega) only [wrap64] at *)
    all_goals try rw [hpi] at *
    all_goals try first | exact leafDraw (by kernel_rfl) | exact Leaf.mk trivial | (refine Leaf.mk ?_; omega) | (refine Leaf.mk ?_; unfold maxLen; omega)
    all_goals try simp only [Int.toNat_zero] at *
    all_goals try rw [wrap64 (n := (groups k).getD 0 0 - 1) (by have := hg.each 0 (by omega); omega)] at *
    all_goals first
      | (refine Leaf.mk ⟨j + 1, by rw [hsum (by omega)]; rfl, ⟨by omega, ?_, ?_⟩, by omega⟩
         · rw [hsum (by omega)]; omega
         · rw [hsum (by omega)]; omega)
      | exact Leaf.mk ⟨(i + 1, (groups k).length), rfl, ⟨hdr, by dsimp only; omega, by dsimp only; omega, .inr (by dsimp only; omega)⟩, by dsimp only; omega⟩
      | (exfalso
         first
         | (have := hge (by omega); omega)
         | (rw [List.take_of_length_le (by omega)] at h; exact h hg.sum))
  · have hk01 : k ≤ 1 := by
      rcases Int.lt_or_le 1 k with h1 | h1
      · rw [plan_step h1, List.drop_of_length_le (by omega)] at he; exact absurd he (by simp)
      · exact h1
    have hw : IntKind.i64.wrap (n.tmod 3001) = k0 := by rw [Int.tmod_eq_emod_of_nonneg (by omega), ← hk0, wrap64 (by omega)]
    have hw0 : n.tmod 3001 = k0 := by rw [Int.tmod_eq_emod_of_nonneg (by omega), ← hk0]
    refine LoopVC.on (fun j : Nat => [(9, .i .i64 (3 ^ (j - 1))), (10, .i .i64 j)]) (fun _ => []) (fun j => 1 ≤ j ∧ (j ≤ (plan k0).length ∨ j = 1)) (fun j => (plan k0).length - j) 1 rfl ⟨by omega, by omega⟩ ?_
    intro j ⟨hj, hj1⟩
    have ht : 0 < (plan k0).length → ((3 : Int) ^ ((plan k0).length - 1)) ≤ k0 := fun hl => tall k0.toNat k0 (Nat.le_refl _) (by omega) (List.length_pos_iff.1 hl)
    have hp0 := p3_pos (j - 1)
    repeat' (first | ((with_reducible refine Ev.mk ?_); conv => whnf) | (with_reducible refine And.intro ?_ ?_) | (intro h))
    all_goals (try simp only [decide_eq_true_eq, decide_eq_false_iff_not, beq_iff_eq, bne_iff_ne, beq_eq_false_iff_ne, bne_eq_false_iff_eq, Int.toNat_natCast, ge_iff_le, gt_iff_lt, Bool.not_eq_true', Bool.not_eq_false', Int.not_lt, Int.not_le, ne_eq] at *)
    all_goals (try dsimp only [Ty.den, Ty.dflt, IsT] at *)
    all_goals (try simp only [eq4, ne4, eq3, ne3, eq2, ne2, Prod.eta, List.length_cons, List.length_nil, List.length_append, Nat.zero_add] at *)
    all_goals (try simp (disch := omega) only [wrap64] at *)
    all_goals try first | exact leafDraw (by kernel_rfl) | exact Leaf.mk trivial | (refine Leaf.mk ?_; omega) | (refine Leaf.mk ?_; unfold maxLen; omega)
    all_goals try rw [hw] at *
    all_goals try rw [hw0] at *
    all_goals first
      | exact Leaf.mk rfl
      | exact Leaf.mk ((inK_iff .u16 _).2 ⟨show (0 : Int) ≤ _ by omega, show _ ≤ (65535 : Int) by omega⟩)
      | (exfalso; omega)
      | (exfalso
         have := ht (by omega)
         have e : (plan k0).length - 1 = j - 1 := by omega
         rw [e] at this; omega)
      | (have h1 := ht (by omega)
         have h2 := p3_mono (a := j) (b := (plan k0).length - 1) (by omega)
         obtain ⟨x, rfl⟩ : ∃ x, j = x + 1 := ⟨j - 1, by omega⟩
         rw [Nat.add_sub_cancel] at *
         rw [Int.pow_succ] at h2
         refine Leaf.mk ⟨x + 1 + 1, ?_, by omega, by omega⟩
         rw [wrap64 (by omega), Nat.add_sub_cancel, Int.pow_succ, Int.mul_comm]; rfl)
end Go.Proofs.Ytlfehkoklgmjjaa
