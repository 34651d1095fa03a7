import Derived.Test.YtlfehkoklgmjjaaG9


set_option linter.unusedVariables false
set_option linter.unusedSimpArgs false
set_option maxRecDepth 8000
set_option maxHeartbeats 4000000
namespace Go.Proofs.Ytlfehkoklgmjjaa
open Go.Eng
/-- What a level's groups are. -/
structure GOk (k : Int) (G : List Int) : Prop where
  len : (G.length : Int) = (k - 1) / 6 + 1
  each : ∀ j, j < G.length → 2 ≤ G.getD j 0 ∧ G.getD j 0 ≤ 6 ∧ (1 < G.length → 3 ≤ G.getD j 0) ∧ G.getD j 0 ≤ G.getD 0 0 ∧ G.getD 0 0 - 1 ≤ G.getD j 0
  sum : G.sum = k
theorem rl_sum (q : Int) {r k : Nat} (h : r ≤ k) : (rl q r k).sum = q * k + r := by
  have e : (k : Int) = (r : Int) + ((k - r : Nat) : Int) := by omega
  rw [rl, List.sum_append, List.sum_replicate_int, List.sum_replicate_int]
  conv => rhs; rw [e]
  rw [Int.mul_add, Int.mul_add, Int.mul_one, Int.mul_comm q, Int.mul_comm q]; omega
theorem gok {k : Int} (h1 : 1 < k) (h2 : k ≤ 3000) : GOk k (groups k) := by
  have hm : mst k = k := by unfold mst; rw [if_neg (by omega)]
  have hG : groups k = rl (k / kOf k) (k % kOf k).toNat (kOf k) := by unfold groups; rw [hm, if_neg (by omega)]
  have hk := kOf_eq (m := k) (by omega)
  have hr := rem_bd (m := k) (by omega)
  have hd := Int.emod_add_mul_ediv k (kOf k)
  generalize kOf k = K at *
  have hq6 : k / (K : Int) ≤ 6 := Int.ediv_le_of_le_mul (by omega) (by omega)
  have hq2 : 2 ≤ k / (K : Int) := (Int.le_ediv_iff_mul_le (by omega)).2 (by omega)
  have hq3 : 1 < K → 3 ≤ k / (K : Int) := fun h => (Int.le_ediv_iff_mul_le (by omega)).2 (by omega)
  have hq5 : 0 < k % (K : Int) → k / (K : Int) ≤ 5 := fun h => by
    rcases Int.lt_or_le (k / (K : Int)) 6 with h6 | h6
    · omega
    · have : k / (K : Int) = 6 := by omega
      rw [this] at hd; omega
  have hl : (rl (k / (K : Int)) (k % (K : Int)).toNat K).length = K := rl_len (by omega)
  rw [hG]
  refine ⟨by rw [hl]; exact hk.1, fun j hj => ?_, ?_⟩
  · rw [hl] at hj ⊢
    rw [rl_get hj (by omega), rl_get (by omega) (by omega)]
    generalize k / (K : Int) = q at *
    split <;> split <;> refine ⟨?_, ?_, fun h => ?_, ?_, ?_⟩ <;> first | omega | (have := hq3 h; omega) | (have := hq5 (by omega); omega)
  · rw [rl_sum _ (by omega)]
    rw [Int.mul_comm] ; omega
theorem tall : ∀ (m : Nat) (k : Int), k.toNat ≤ m → k ≤ 3000 → plan k ≠ [] → ((3 : Int) ^ ((plan k).length - 1)) ≤ k
  | 0, k, h, _, hp => absurd (plan_end (by omega)) hp
  | m + 1, k, h, hk, hp => by
    by_cases h1 : 1 < k
    · have hg := gok h1 hk
      have hl := hg.len
      rw [plan_step h1, List.length_cons, Nat.add_sub_cancel]
      by_cases hn : plan ((groups k).length : Nat) = []
      · rw [hn]; simp only [List.length_nil, Int.pow_zero]; omega
      · have ih := tall m ((groups k).length : Nat) (by omega) (by omega) hn
        obtain ⟨x, hx⟩ : ∃ x, (plan ((groups k).length : Nat)).length = x + 1 := ⟨_, (Nat.succ_pred_eq_of_pos (List.length_pos_iff.2 hn)).symm⟩
        rw [hx, Nat.add_sub_cancel] at ih
        rw [hx, Int.pow_succ]
        have hK : 1 < ((groups k).length : Int) := by
          rcases Int.lt_or_le 1 ((groups k).length : Int) with h3 | h3
          · exact h3
          · exact absurd (plan_end (by omega)) hn
        omega
    · exact absurd (plan_end h1) hp
end Go.Proofs.Ytlfehkoklgmjjaa
