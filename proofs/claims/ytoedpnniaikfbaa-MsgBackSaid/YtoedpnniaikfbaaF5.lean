import Derived.Test.YtoedpnniaikfbaaF4
import Derived.Test.YtoedpnniaikfbaaC5



set_option linter.unusedVariables false
set_option linter.unusedSimpArgs false
set_option maxRecDepth 8000
set_option maxHeartbeats 4000000
namespace Go.Proofs.Ytoedpnniaikfbaa
open Go.Eng
/-- No pair stands wrong. -/
def badP (a b : Ver) : Bool := (decide (a.2.1 = 0) && (decide (¬ b.2.1 = 0) || decide (a.1 = b.1))) || (decide (¬ b.2.1 = 0) && decide (b.2.1 < a.2.1))
def sSCheckR : PSpec := sCheck
theorem OrdB_iff : ∀ (ys : List Ver) (l : List Int), OrdB ys l ↔ (∀ v ∈ ys, v.2.1 = 0 ∧ v.1 ∉ l) ∧ ys.Pairwise (fun a b => a.1 ≠ b.1)
  | [], l => by simp [OrdB]
  | v :: r, l => by
    rw [OrdB, OrdB_iff r (v.1 :: l), List.pairwise_cons]
    constructor
    · rintro ⟨h1, h2, h3, h4⟩
      refine ⟨fun w hw => ?_, fun w hw hc => (h3 w hw).2 (by simp [hc]), h4⟩
      rcases List.mem_cons.1 hw with rfl | hw
      · exact ⟨h1, h2⟩
      · exact ⟨(h3 w hw).1, fun hc => (h3 w hw).2 (by simp [hc])⟩
    · rintro ⟨h1, h2, h3⟩
      refine ⟨(h1 v (by simp)).1, (h1 v (by simp)).2, fun w hw => ⟨(h1 w (by simp [hw])).1, fun hc => ?_⟩, h3⟩
      rcases List.mem_cons.1 hc with hc | hc
      · exact h2 w hw hc.symm
      · exact (h1 w (by simp [hw])).2 hc
theorem firstZ_at (xs : List Ver) : firstZ xs ≤ xs.length ∧ (firstZ xs < xs.length → (xs.getD (firstZ xs) ver0).2.1 = 0) := by
  have hp := idxF_pos ordered1 xs 0
  unfold firstZ
  split
  · exact ⟨Nat.le_refl _, fun h => absurd h (Nat.lt_irrefl _)⟩
  · refine ⟨by omega, fun _ => ?_⟩
    rcases Go.Eng.idxF_find ver0 ordered1 xs 0 with ⟨h1, _⟩ | ⟨j, h1, h2, h3⟩
    · omega
    · have := List.find?_some h3
      rw [h1, show (((0 : Nat) : Int) + (j : Int)).toNat = j by omega]
      simpa [ordered1] using this
/-- No two stand wrong. -/
def okP (xs : List Ver) (i : Nat) : Prop := ∀ j, j < i → ∀ k, k < j → badP (xs.getD k ver0) (xs.getD j ver0) = false
theorem bad_false {a b : Ver} : badP a b = false ↔ (a.2.1 = 0 → b.2.1 = 0 ∧ a.1 ≠ b.1) ∧ (b.2.1 ≠ 0 → a.2.1 ≤ b.2.1) := by
  unfold badP
  rw [Bool.or_eq_false_iff, Bool.and_eq_false_iff, Bool.and_eq_false_iff, Bool.or_eq_false_iff]
  simp only [decide_eq_false_iff_not]
  constructor
  · rintro ⟨h1, h2⟩
    refine ⟨fun h => ?_, fun h => ?_⟩
    · rcases h1 with h1 | h1
      · exact absurd h h1
      · exact ⟨Classical.not_not.1 h1.1, h1.2⟩
    · rcases h2 with h2 | h2
      · exact absurd h h2
      · omega
  · rintro ⟨h1, h2⟩
    refine ⟨?_, ?_⟩
    · by_cases h : a.2.1 = 0
      · exact .inr ⟨Classical.not_not.2 (h1 h).1, (h1 h).2⟩
      · exact .inl h
    · by_cases h : b.2.1 = 0
      · exact .inl (Classical.not_not.2 h)
      · exact .inr (by have := h2 h; omega)
theorem ordered_iff {xs : List Ver} : ordered xs = true ↔ okP xs xs.length := by
  have hz := firstZ_at xs
  have hn := firstZ_not xs
  unfold ordered
  rw [decide_eq_true_iff, OrdB_iff]
  constructor
  · rintro ⟨h1, h2, h3⟩ j hj k hk
    have hmem : ∀ i, firstZ xs ≤ i → i < xs.length → (xs.getD i ver0).2.1 = 0 := fun i hi hl => (h2 _ (by
      rw [List.mem_iff_getElem]
      exact ⟨i - firstZ xs, by simp; omega, by simp [List.getD, hl]; congr 1; omega⟩)).1
    rw [bad_false]
    by_cases hjn : j < firstZ xs
    · have hm := OrdA_mono h1 (j - k) k (by omega)
      rw [show k + (j - k) = j by omega] at hm
      exact ⟨fun h => absurd h (hn k (by omega)).2, fun _ => hm⟩
    · have hj0 := hmem j (by omega) hj
      refine ⟨fun h => ⟨hj0, fun hc => ?_⟩, fun h => absurd hj0 h⟩
      have hkn : firstZ xs ≤ k := by
        rcases Nat.lt_or_ge k (firstZ xs) with h4 | h4
        · exact absurd h (hn k h4).2
        · exact h4
      rw [List.pairwise_iff_getElem] at h3
      have := h3 (k - firstZ xs) (j - firstZ xs) (by simp; omega) (by simp; omega) (by omega)
      simp only [List.getElem_drop] at this
      apply this
      have e1 : xs[firstZ xs + (k - firstZ xs)]'(by omega) = xs.getD k ver0 := by simp [List.getD, show k < xs.length by omega]; congr 1; omega
      have e2 : xs[firstZ xs + (j - firstZ xs)]'(by omega) = xs.getD j ver0 := by simp [List.getD, hj]; congr 1; omega
      rw [e1, e2]; exact hc
  · intro h
    have h' : ∀ j, j < xs.length → ∀ k, k < j → _ := fun j hj k hk => bad_false.1 (h j hj k hk)
    have hmem : ∀ i, firstZ xs ≤ i → i < xs.length → (xs.getD i ver0).2.1 = 0 := fun i hi hl => by
      rcases Nat.lt_or_ge (firstZ xs) i with h4 | h4
      · exact ((h' i hl (firstZ xs) h4).1 (hz.2 (by omega))).1
      · have : i = firstZ xs := by omega
        subst this; exact hz.2 hl
    refine ⟨fun j hj h1 => (h' j (by omega) (j - 1) (by omega)).2 (hn j hj).2, fun v hv => ⟨?_, by simp⟩, ?_⟩
    · rw [List.mem_iff_getElem] at hv
      obtain ⟨i, hi, rfl⟩ := hv
      simp at hi
      have := hmem (firstZ xs + i) (by omega) (by omega)
      simpa [List.getD, show firstZ xs + i < xs.length by omega] using this
    · rw [List.pairwise_iff_getElem]
      intro i j hi hj hij hc
      simp at hi hj
      simp only [List.getElem_drop] at hc
      have e1 : xs[firstZ xs + i]'(by omega) = xs.getD (firstZ xs + i) ver0 := by simp [List.getD, show firstZ xs + i < xs.length by omega]
      have e2 : xs[firstZ xs + j]'(by omega) = xs.getD (firstZ xs + j) ver0 := by simp [List.getD, show firstZ xs + j < xs.length by omega]
      rw [e1, e2] at hc
      exact ((h' (firstZ xs + j) (by omega) (firstZ xs + i) (by omega)).1 (hmem _ (by omega) (by omega))).2 hc
theorem verC_eq {v : Ver} : verC v = if 24 < v.2.2.2.length then 5 else if v.2.2.1 = true ∧ v.2.2.2 ≠ [] then 4 else if inB v.1 = true ∧ inB v.2.1 = true then 0 else 9 := rfl
theorem bad_ret {key : List UInt8} {xs : List Ver} {i : Nat} {c : Int} (hC : check (key, xs) = if firstBad xs = 0 then (if ordered xs = true then 0 else 12) else firstBad xs) (he : firstBad xs = firstBad (xs.drop i)) (hi : i < xs.length) (hv : verC (xs.getD i (0, 0, false, [])) = c) (h0 : ¬ c = 0) : c = check (key, xs) := by
  rw [firstBad_at hi, if_neg (by rw [hv]; exact h0)] at he
  rw [hC, he, hv, if_neg h0]
theorem good_step {xs : List Ver} {i : Nat} (he : firstBad xs = firstBad (xs.drop i)) (hi : i < xs.length) (hv : verC (xs.getD i (0, 0, false, [])) = 0) : firstBad xs = firstBad (xs.drop (i + 1)) := by
  rw [firstBad_at hi, if_pos hv] at he
  exact he
def sInR : PSpec := sIn
def sSPutR : PSpec := sSPut
end Go.Proofs.Ytoedpnniaikfbaa
