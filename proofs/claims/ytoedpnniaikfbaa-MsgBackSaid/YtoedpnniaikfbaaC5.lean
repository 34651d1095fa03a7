import Derived.Test.YtoedpnniaikfbaaC4


set_option linter.unusedVariables false
set_option linter.unusedSimpArgs false
namespace Go.Proofs.Ytoedpnniaikfbaa
open Go.Eng
/-! ## What is read, by the version that is picked -/
def bestV (at' : Int) : List Ver → Option Ver
  | [] => none
  | v :: r => match bestV at' r with
    | none => if 1 ≤ v.2.1 ∧ v.2.1 ≤ at' then some v else none
    | some w => if (1 ≤ v.2.1 ∧ v.2.1 ≤ at') ∧ w.2.1 < v.2.1 then some v else some w
def sel (me at' : Int) (xs : List Ver) : Option Ver := match xs.find? (pend me) with
  | some v => some v
  | none => bestV at' xs
def outV : Option Ver → List UInt8 × Bool
  | none => ([], false)
  | some v => if v.2.2.1 = true then ([], false) else (v.2.2.2, true)
theorem bestL_bestV (at' : Int) : ∀ (xs : List Ver) (i : Nat), ((bestL at' xs i).1 = -1 ∧ bestV at' xs = none) ∨ ∃ j : Nat, (bestL at' xs i).1 = i + j ∧ (bestL at' xs i).2 = (xs.getD j ver0).2.1 ∧ j < xs.length ∧ bestV at' xs = some (xs.getD j ver0)
  | [], i => .inl ⟨rfl, rfl⟩
  | v :: r, i => by
    rcases bestL_bestV at' r (i + 1) with ⟨h1, h2⟩ | ⟨j, h1, h2, h3, h4⟩
    · simp only [bestL, bestV, h2, h1]
      by_cases hc : 1 ≤ v.2.1 ∧ v.2.1 ≤ at'
      · rw [if_pos ⟨hc.1, hc.2, .inl (by omega)⟩, if_pos hc]
        exact .inr ⟨0, by simp, rfl, by simp, rfl⟩
      · rw [if_neg (fun h => hc ⟨h.1, h.2.1⟩), if_neg hc]
        exact .inl ⟨h1, rfl⟩
    · simp only [bestL, bestV, h4]
      by_cases hc : (1 ≤ v.2.1 ∧ v.2.1 ≤ at') ∧ (r.getD j ver0).2.1 < v.2.1
      · rw [if_pos ⟨hc.1.1, hc.1.2, .inr (by rw [h2]; exact hc.2)⟩, if_pos hc]
        exact .inr ⟨0, by simp, rfl, by simp, rfl⟩
      · rw [if_neg (fun h => hc ⟨⟨h.1, h.2.1⟩, by rcases h.2.2 with h | h; omega; rw [h2] at h; exact h⟩), if_neg hc]
        exact .inr ⟨j + 1, by rw [h1]; omega, h2, by simp; omega, rfl⟩
theorem read_sel (s : Stk) (me at' : Int) : readV s me at' = outV (sel me at' s.2) := by
  have key : ∀ (k : Int) (o : Option Ver), which s me at' = k → ((k = -1 ∧ o = none) ∨ ∃ j : Nat, k = j ∧ j < s.2.length ∧ o = some (s.2.getD j ver0)) → readV s me at' = outV o := by
    intro k o hk h
    unfold readV
    rw [hk]
    rcases h with ⟨rfl, rfl⟩ | ⟨j, rfl, h1, rfl⟩
    · rfl
    · simp only [Int.toNat_natCast]
      by_cases hg : (s.2.getD j ver0).2.2.1 = true
      · rw [if_pos (.inr hg), outV, if_pos hg]
      · rw [if_neg (fun hc => hc.elim (fun h => by omega) hg), outV, if_neg hg]
  refine key _ _ rfl ?_
  unfold which sel
  rcases idxF_find ver0 (pend me) s.2 0 with ⟨h1, h2⟩ | ⟨j, h1, h2, h3⟩
  · rw [h2, if_neg (by omega)]
    rcases bestL_bestV at' s.2 0 with ⟨h3, h4⟩ | ⟨j, h3, h4, h5, h6⟩
    · exact .inl ⟨h3, h4⟩
    · exact .inr ⟨j, by rw [h3]; simp, h5, h6⟩
  · rw [h3, if_pos (by omega)]
    exact .inr ⟨j, by rw [h1]; simp, h2, rfl⟩
def rel (me at' : Int) (v : Ver) : Bool := pend me v || okTs at' v
theorem bestV_filter {at' : Int} {p : Ver → Bool} (hp : ∀ v, okTs at' v = true → p v = true) : ∀ xs : List Ver, bestV at' (xs.filter p) = bestV at' xs
  | [] => rfl
  | v :: r => by
    rw [List.filter_cons]
    by_cases h : p v = true
    · rw [if_pos h, bestV, bestV, bestV_filter hp r]
    · rw [if_neg h, bestV_filter hp r, bestV]
      have hn : ¬ (1 ≤ v.2.1 ∧ v.2.1 ≤ at') := fun hc => h (hp v (decide_eq_true hc))
      cases hb : bestV at' r with
      | none => simp only; rw [if_neg hn]
      | some w => simp only; rw [if_neg (fun hc => hn hc.1)]
theorem find_filter {me : Int} {p : Ver → Bool} (hp : ∀ v, pend me v = true → p v = true) : ∀ xs : List Ver, (xs.filter p).find? (pend me) = xs.find? (pend me)
  | [] => rfl
  | v :: r => by
    rw [List.filter_cons]
    by_cases h : p v = true
    · rw [if_pos h, List.find?_cons, List.find?_cons, find_filter hp r]
    · rw [if_neg h, find_filter hp r, List.find?_cons]
      have : pend me v = false := by
        cases hq : pend me v
        · rfl
        · exact absurd (hp v hq) h
      rw [this]
theorem sel_filter (me at' : Int) (xs : List Ver) : sel me at' (xs.filter (rel me at')) = sel me at' xs := by
  unfold sel
  rw [find_filter (fun v hv => by unfold rel; rw [hv]; rfl), bestV_filter (fun v hv => by unfold rel; rw [hv]; simp)]
theorem sel_eq {me at' : Int} {xs ys : List Ver} (h : xs.filter (rel me at') = ys.filter (rel me at')) : sel me at' xs = sel me at' ys := by
  rw [← sel_filter, h, sel_filter]
/-! ## What a Check says -/
structure Fine (xs : List Ver) : Prop where
  ts : ∀ v ∈ xs, 0 ≤ v.2.1 ∧ v.2.1 ≤ 1099511627776
  srt : xs.Pairwise fun a b => b.2.1 = 0 ∨ (a.2.1 ≠ 0 ∧ a.2.1 ≤ b.2.1)
theorem firstBad_zero : ∀ (xs : List Ver), firstBad xs = 0 → ∀ v ∈ xs, verC v = 0
  | [], _, v, hv => by simp at hv
  | x :: r, h, v, hv => by
    rw [firstBad] at h
    split at h
    · rcases List.mem_cons.1 hv with rfl | hv
      · assumption
      · exact firstBad_zero r h v hv
    · contradiction
theorem verC_zero {v : Ver} (h : verC v = 0) : 0 ≤ v.2.1 ∧ v.2.1 ≤ 1099511627776 := by
  unfold verC at h
  repeat' split at h
  all_goals first | omega | skip
  rename_i hc
  exact of_decide_eq_true hc.2
theorem firstZ_not (xs : List Ver) : ∀ j, j < firstZ xs → j < xs.length ∧ (xs.getD j ver0).2.1 ≠ 0 := by
  have gen : ∀ (xs : List Ver) (i : Nat), ∀ j : Nat, j < xs.length → (idxF ordered1 xs i < 0 ∨ (i : Int) + j < idxF ordered1 xs i) → (xs.getD j ver0).2.1 ≠ 0 := by
    intro xs
    induction xs with
    | nil => intro i j h; simp at h
    | cons x r ih =>
      intro i j hj h hc
      rw [idxF] at h
      split at h
      · omega
      · rename_i hx
        cases j with
        | zero => exact hx (by simpa [ordered1] using hc)
        | succ j => exact ih (i + 1) j (by simpa using hj) (by omega) (by simpa using hc)
  intro j hj
  unfold firstZ at hj
  have hp := idxF_pos ordered1 xs 0
  split at hj
  · exact ⟨hj, gen xs 0 j hj (.inl (by assumption))⟩
  · exact ⟨by omega, gen xs 0 j (by omega) (.inr (by omega))⟩
theorem OrdB_zero : ∀ (xs : List Ver) (l : List Int), OrdB xs l → ∀ v ∈ xs, v.2.1 = 0
  | [], _, _, v, hv => by simp at hv
  | x :: r, l, h, v, hv => by
    rcases List.mem_cons.1 hv with rfl | hv
    · exact h.1
    · exact OrdB_zero r _ h.2.2 v hv
theorem OrdA_mono {xs : List Ver} {n : Nat} (h : OrdA xs n) : ∀ (d i : Nat), i + d < n → (xs.getD i ver0).2.1 ≤ (xs.getD (i + d) ver0).2.1
  | 0, i, _ => Int.le_refl _
  | d + 1, i, hn => by
    have h1 := OrdA_mono h d i (by omega)
    have h2 := h (i + (d + 1)) hn (by omega)
    rw [show i + (d + 1) - 1 = i + d by omega] at h2
    omega
theorem check_fine {s : Stk} (h : check s = 0) : Fine s.2 := by
  unfold check at h
  split at h
  · omega
  split at h
  · omega
  split at h
  rotate_left
  · contradiction
  rename_i hb
  split at h
  rotate_left
  · omega
  rename_i ho
  have ho := of_decide_eq_true ho
  refine ⟨fun v hv => verC_zero (firstBad_zero _ hb v hv), ?_⟩
  rw [List.pairwise_iff_getElem]
  intro i j hi hj hij
  have gi : s.2[i] = s.2.getD i ver0 := by simp [List.getD, hi]
  have gj : s.2[j] = s.2.getD j ver0 := by simp [List.getD, hj]
  by_cases hn : j < firstZ s.2
  · right
    have := OrdA_mono ho.1 (j - i) i (by omega)
    rw [show i + (j - i) = j by omega] at this
    rw [gi, gj]
    exact ⟨(firstZ_not s.2 i (by omega)).2, this⟩
  · left
    refine OrdB_zero _ _ ho.2 _ ?_
    rw [List.mem_iff_getElem]
    exact ⟨j - firstZ s.2, by simp; omega, by simp; congr 1; omega⟩
end Go.Proofs.Ytoedpnniaikfbaa
