import Derived.Test.YtcgfolhnoggjfaaJ12
set_option linter.unusedVariables false
set_option linter.unusedSimpArgs false
set_option maxRecDepth 8000
set_option maxHeartbeats 4000000
namespace Go.Proofs.Ytcgfolhnoggjfaa
open Go.Eng
/-! ## Pivots part keys evenly -/
theorem div_two (a b : Nat) {m : Nat} (h : 0 < m) : a / m + b / m ≤ (a + b) / m ∧ (a + b) / m ≤ a / m + b / m + 1 := by
  have h1 := Nat.div_add_mod a m
  have h2 := Nat.div_add_mod b m
  have h3 := Nat.mod_lt a h
  have h4 := Nat.mod_lt b h
  constructor
  · rw [Nat.le_div_iff_mul_le h, Nat.add_mul, Nat.mul_comm (a / m), Nat.mul_comm (b / m)]; omega
  · refine Nat.lt_succ_iff.1 ((Nat.div_lt_iff_lt_mul h).2 ?_)
    show a + b < (a / m + b / m + 1 + 1) * m
    rw [Nat.add_mul, Nat.add_mul, Nat.add_mul, Nat.one_mul, Nat.mul_comm (a / m), Nat.mul_comm (b / m)]; omega
abbrev qn (L m k : Nat) : Nat := k * L / m
theorem qn_step {L m : Nat} (h : 0 < m) (k : Nat) : qn L m k + L / m ≤ qn L m (k + 1) ∧ qn L m (k + 1) ≤ qn L m k + L / m + 1 := by
  have := div_two (k * L) L h
  unfold qn
  rw [Nat.add_mul, Nat.one_mul]; exact this
theorem qn_lt {L m : Nat} (h : 0 < m) (hm : m ≤ L) (k : Nat) : qn L m k < qn L m (k + 1) := by
  have := (qn_step (L := L) h k).1
  have h1 : 1 ≤ L / m := (Nat.le_div_iff_mul_le h).2 (by omega)
  omega
theorem qn_mono {L m : Nat} (h : 0 < m) (hm : m ≤ L) {i : Nat} : ∀ {k : Nat}, i ≤ k → qn L m i ≤ qn L m k
  | 0, hk => by rw [show i = 0 by omega]; exact Nat.le_refl _
  | k + 1, hk => by
    by_cases hi : i = k + 1
    · rw [hi]; exact Nat.le_refl _
    · have := qn_mono h hm (i := i) (k := k) (by omega)
      have := qn_lt h hm k
      omega
theorem qn_zero (L m : Nat) : qn L m 0 = 0 := by unfold qn; rw [Nat.zero_mul, Nat.zero_div]
theorem qn_end {L m : Nat} (h : 0 < m) : qn L m m = L := by unfold qn; rw [Nat.mul_comm, Nat.mul_div_cancel _ h]
theorem qn_part {L m j : Nat} : ∀ r, j < qn L m r → ∃ i, i < r ∧ qn L m i ≤ j ∧ j < qn L m (i + 1)
  | 0, h => by rw [qn_zero] at h; omega
  | r + 1, h => by
    by_cases hr : j < qn L m r
    · obtain ⟨i, h1, h2⟩ := qn_part r hr
      exact ⟨i, by omega, h2⟩
    · exact ⟨r, by omega, by omega, h⟩
theorem cnt_range {L m j i : Nat} (h : 0 < m) (hm : m ≤ L) (h1 : qn L m i ≤ j) (h2 : j < qn L m (i + 1)) : ∀ r, (List.range r).countP (fun k => decide (qn L m (k + 1) ≤ j)) = min r i
  | 0 => by simp
  | r + 1 => by
    rw [List.range_succ, List.countP_append, cnt_range h hm h1 h2 r, List.countP_singleton]
    by_cases hr : r + 1 ≤ i
    · have := qn_mono h hm hr
      rw [decide_eq_true (show qn L m (r + 1) ≤ j by omega)]
      simp; omega
    · have := qn_mono h hm (show i + 1 ≤ r + 1 by omega)
      rw [decide_eq_false (show ¬ qn L m (r + 1) ≤ j by omega)]
      simp; omega
theorem rise_le {s : List Str} (hs : s.Pairwise (· < ·)) {a b : Nat} (ha : a < s.length) (hb : b < s.length) : leS (s.getD b []) (s.getD a []) = decide (a ≤ b) := by
  have g : ∀ i, (h : i < s.length) → s.getD i [] = s[i] := fun i h => by rw [List.getD_eq_getElem?_getD, List.getElem?_eq_getElem h]; rfl
  rw [leS, sle_not, Bool.eq_iff_iff, decide_eq_true_eq, Bool.not_eq_true', ← Bool.not_eq_true, sless_iff, g a ha, g b hb]
  rw [List.pairwise_iff_getElem] at hs
  constructor
  · intro h
    refine Nat.le_of_not_lt fun hc => h (hs b a hb ha hc)
  · intro h hc
    rcases Nat.lt_or_eq_of_le h with h1 | h1
    · exact slt_asymm hc (hs a b ha hb h1)
    · subst h1; exact slt_irrefl _ hc
theorem place_piv {s : List Str} (hs : s.Pairwise (· < ·)) {m j i : Nat} (h : 0 < m) (hm : m ≤ s.length) (hj : j < s.length) (hi : i < m) (h1 : qn s.length m i ≤ j) (h2 : j < qn s.length m (i + 1)) : placeF (pivN s m m) (s.getD j []) = i := by
  have e : placeF (pivN s m m) (s.getD j []) = (List.range (m - 1)).countP (fun k => decide (qn s.length m (k + 1) ≤ j)) := by
    rw [placeF, pivN, List.countP_map]
    refine List.countP_congr fun k hk => ?_
    rw [List.mem_range] at hk
    have hq : qn s.length m (k + 1) < s.length := by
      have h3 := qn_lt h hm (k + 1)
      have h4 := qn_mono h hm (show k + 1 + 1 ≤ m by omega)
      rw [qn_end h] at h4
      omega
    show leS (s.getD j []) (s.getD (qn s.length m (k + 1)) []) = true ↔ _
    rw [rise_le hs hq hj]
  rw [e, cnt_range h hm h1 h2]; omega
/-- How many keys a part has. -/
theorem part_take {s : List Str} (hs : s.Pairwise (· < ·)) {m i : Nat} (h : 0 < m) (hm : m ≤ s.length) (hi : i < m) : ∀ j, j ≤ s.length → (s.take j).countP (fun x => decide (placeF (pivN s m m) x = i)) = min j (qn s.length m (i + 1)) - min j (qn s.length m i)
  | 0, _ => by simp
  | j + 1, hj => by
    rw [take_at [] (show j < s.length by omega), List.countP_append, part_take hs h hm hi j (by omega), List.countP_singleton]
    have hlt := qn_lt (L := s.length) h hm i
    by_cases hin : qn s.length m i ≤ j ∧ j < qn s.length m (i + 1)
    · rw [decide_eq_true (place_piv hs h hm (by omega) hi hin.1 hin.2)]
      simp only [if_true]; omega
    · obtain ⟨i0, k1, k2, k3⟩ := qn_part (L := s.length) (m := m) (j := j) m (by rw [qn_end h]; omega)
      have hp := place_piv hs h hm (show j < s.length by omega) k1 k2 k3
      rw [decide_eq_false (by rw [hp]; intro hc; subst hc; exact hin ⟨k2, k3⟩)]
      simp only [Bool.false_eq_true, if_false]
      omega
def prs (s : List Str) : List Pr := s.map fun x => (x, [])
theorem prs_at {s : List Str} {j : Nat} (h : j < s.length) : (prs s).getD j ([], []) = (s.getD j [], []) := by
  rw [prs, List.getD_eq_getElem?_getD, List.getElem?_map, List.getD_eq_getElem?_getD, List.getElem?_eq_getElem h]; rfl
theorem cnt_prs {s : List Str} (hl : s.length ≤ 60) (pv : List Str) (i : Nat) : ∀ j, j ≤ s.length → (cntI pv ((prs s).take j) i).1 = (((s.take j).countP (fun x => decide (placeF pv x = i)) : Nat) : Int)
  | 0, _ => rfl
  | j + 1, hj => by
    have ih := cnt_prs hl pv i j (by omega)
    have hc : (s.take j).countP (fun x => decide (placeF pv x = i)) ≤ j := Nat.le_trans List.countP_le_length (by rw [List.length_take]; omega)
    rw [cntI_at pv (by rw [prs, List.length_map]; omega), prs_at (by omega), take_at [] (show j < s.length by omega), List.countP_append, List.countP_singleton, stepC]
    dsimp only
    split
    · rename_i he
      rw [decide_eq_true he, ih]
      unfold w64
      rw [wrap64 (by omega)]; simp
    · rename_i he
      rw [decide_eq_false he, ih]; simp
theorem counts_mem {s : List Str} (hl : s.length ≤ 60) {pv : List Str} {x : Cnt} (hx : x ∈ countsF pv (prs s)) : ∃ i, i ≤ pv.length ∧ x.2.1 = ((s.countP (fun x => decide (placeF pv x = i)) : Nat) : Int) := by
  obtain ⟨i, hi, rfl⟩ := List.mem_map.1 hx
  rw [List.mem_range] at hi
  refine ⟨i, by omega, ?_⟩
  have := cnt_prs hl pv i s.length (Nat.le_refl _)
  rw [List.take_of_length_le (show (prs s).length ≤ s.length by rw [prs, List.length_map]; omega), List.take_length] at this
  exact this
theorem even_bd {s : List Str} (hl : s.length ≤ 60) (pv : List Str) : bdK (countsF pv (prs s)) := fun x hx => by
  obtain ⟨i, hi, he⟩ := counts_mem hl hx
  have : s.countP (fun x => decide (placeF pv x = i)) ≤ s.length := List.countP_le_length
  omega
theorem even_skew {s : List Str} (hs : s.Pairwise (· < ·)) (hl : s.length ≤ 60) {m : Nat} (hm : m ≤ s.length) : skewF (countsF (pivN s m m) (prs s)) ≤ 1 := by
  have hcl := countsF_len (pivN s m m) (prs s)
  have hpl := pivN_len s m m
  rw [skewF, if_neg (by omega)]
  by_cases h : 0 < m
  · have key : ∀ x ∈ countsF (pivN s m m) (prs s), ((s.length / m : Nat) : Int) ≤ x.2.1 ∧ x.2.1 ≤ ((s.length / m : Nat) : Int) + 1 := fun x hx => by
      obtain ⟨i, hi, he⟩ := counts_mem hl hx
      have hp := part_take hs h hm (show i < m by omega) s.length (Nat.le_refl _)
      rw [List.take_length] at hp
      have h3 := qn_step (L := s.length) h i
      have h4 := qn_mono h hm (show i + 1 ≤ m by omega)
      rw [qn_end h] at h4
      rw [he, hp]
      have h5 := qn_lt (L := s.length) h hm i
      generalize qn s.length m (i + 1) = A at *
      generalize qn s.length m i = B at *
      generalize s.length / m = D at *
      omega
    have h1 := key _ (maxN_mem (c := countsF (pivN s m m) (prs s)) ((countsF (pivN s m m) (prs s)).length - 1) (by omega))
    have h2 := key _ (minN_mem (c := countsF (pivN s m m) (prs s)) ((countsF (pivN s m m) (prs s)).length - 1) (by omega))
    omega
  · rw [show (countsF (pivN s m m) (prs s)).length - 1 = 0 by omega, maxN, minN]; omega
theorem piv_rise {s : List Str} (hs : s.Pairwise (· < ·)) {m k : Nat} (hm : m ≤ s.length) (hk : k + 1 < (pivN s m m).length) : sless ((pivN s m m).getD k []) ((pivN s m m).getD (k + 1) []) = true := by
  rw [pivN_len] at hk
  have g : ∀ k, k < m - 1 → (pivN s m m).getD k [] = s.getD (qn s.length m (k + 1)) [] := fun k h => by
    rw [pivN, List.getD_eq_getElem?_getD, List.getElem?_map, List.getElem?_range h]; rfl
  have h : 0 < m := by omega
  rw [g k (by omega), g (k + 1) (by omega), sless_iff]
  have h1 := qn_lt (L := s.length) h hm (k + 1)
  have h2 := qn_lt (L := s.length) h hm (k + 1 + 1)
  have h3 := qn_mono h hm (show k + 1 + 1 + 1 ≤ m by omega)
  rw [qn_end h] at h3
  have e : ∀ i, (h : i < s.length) → s.getD i [] = s[i] := fun i h => by rw [List.getD_eq_getElem?_getD, List.getElem?_eq_getElem h]; rfl
  rw [e _ (by omega), e _ (by omega)]
  exact (List.pairwise_iff_getElem.1 hs) _ _ (by omega) (by omega) h1
theorem rise_sless {s : List Str} (hs : s.Pairwise (· < ·)) {k : Nat} (h : k + 1 < s.length) : sless (s.getD k []) (s.getD (k + 1) []) = true := by
  have e : ∀ i, (h : i < s.length) → s.getD i [] = s[i] := fun i h => by rw [List.getD_eq_getElem?_getD, List.getElem?_eq_getElem h]; rfl
  rw [sless_iff, e _ (by omega), e _ h]
  exact (List.pairwise_iff_getElem.1 hs) _ _ (by omega) h (by omega)
theorem sortF_rise (l : List Str) : (sortF l).Pairwise (· < ·) := by rw [sortF, sortU_fold]; exact sortU_rise l
end Go.Proofs.Ytcgfolhnoggjfaa
