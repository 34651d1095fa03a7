import Derived.Test.YtlfehkoklgmjjaaD5
import Derived.Test.YtlfehkoklgmjjaaEngSt

set_option linter.unusedVariables false
set_option linter.unusedSimpArgs false
namespace Go.Proofs.Ytlfehkoklgmjjaa
open Go.Eng
/-! ## Logs: plain laws -/
theorem first_trim (l : List Ent) (to start : Int) (k : Tx) (h : to ≤ start) : firstL (trim l to) start k = firstL l start k := by
  induction l with
  | nil => rfl
  | cons e r ih =>
    unfold firstL trim at ih ⊢
    rw [List.filter_cons]
    split
    · rw [List.find?_cons, List.find?_cons, ih]
    · rename_i hc
      rw [decide_eq_true_iff] at hc
      rw [ih, List.find?_cons, show firstP start k e = false by unfold firstP; rw [decide_eq_false (by omega)]; rfl]
theorem logC_pos {last : Int} {e : Ent} {r : List Ent} (h : logC last (e :: r) = 0) : 1 ≤ e.1 ∧ e.1 ≤ 1099511627776 ∧ last < e.1 ∧ rising e.2 = true ∧ e.2.length ≠ 0 ∧ logC e.1 r = 0 := by
  rw [logC] at h
  split at h
  · omega
  split at h
  · omega
  split at h
  · omega
  rename_i h1 h2 h3
  rw [not_or] at h2
  exact ⟨by omega, by omega, by omega, by simpa using h2.2, h3, h⟩
theorem logC_of {last : Int} {e : Ent} {r : List Ent} (h1 : 1 ≤ e.1) (h2 : e.1 ≤ 1099511627776) (h3 : last < e.1) (h4 : rising e.2 = true) (h5 : e.2.length ≠ 0) (h6 : logC e.1 r = 0) : logC last (e :: r) = 0 := by
  rw [lcn h1 h2 h3 h4 h5, h6]
theorem logC_mono {a b : Int} (h : a ≤ b) : ∀ {l : List Ent}, logC b l = 0 → logC a l = 0
  | [], _ => rfl
  | e :: r, hc => by
    obtain ⟨h1, h2, h3, h4, h5, h6⟩ := logC_pos hc
    exact logC_of h1 h2 (by omega) h4 h5 h6
theorem trim_log (to : Int) : ∀ (l : List Ent) (last : Int), logC last l = 0 → logC last (trim l to) = 0
  | [], _, _ => rfl
  | e :: r, last, h => by
    obtain ⟨h1, h2, h3, h4, h5, h6⟩ := logC_pos h
    have ih := trim_log to r e.1 h6
    unfold trim at ih ⊢
    rw [List.filter_cons]
    split
    · exact logC_of h1 h2 h3 h4 h5 ih
    · exact logC_mono (Int.le_of_lt h3) ih
/-- The last one's time. -/
def lastT (l : List Ent) (d : Int) : Int := l.foldl (fun _ e => e.1) d
theorem log_snoc {t : Int} {k : Tx} (ht : 1 ≤ t) (ht2 : t ≤ 1099511627776) (hk : rising k = true) (hk2 : k.length ≠ 0) : ∀ (l : List Ent) (last : Int), logC last l = 0 → lastT l last < t → logC last (l ++ [(t, k)]) = 0
  | [], last, _, h => logC_of ht ht2 h hk hk2 rfl
  | e :: r, last, hc, h => by
    obtain ⟨h1, h2, h3, h4, h5, h6⟩ := logC_pos hc
    exact logC_of h1 h2 h3 h4 h5 (log_snoc ht ht2 hk hk2 r e.1 h6 h)
theorem lastT_ge : ∀ (l : List Ent) (last : Int), logC last l = 0 → last ≤ lastT l last ∧ (∀ e ∈ l, e.1 ≤ lastT l last) ∧ (l ≠ [] → 1 ≤ lastT l last ∧ lastT l last ≤ 1099511627776)
  | [], last, _ => ⟨Int.le_refl _, fun e he => (List.not_mem_nil he).elim, fun h => (h rfl).elim⟩
  | e :: r, last, hc => by
    obtain ⟨h1, h2, h3, h4, h5, h6⟩ := logC_pos hc
    obtain ⟨k1, k2, k3⟩ := lastT_ge r e.1 h6
    have heq : lastT (e :: r) last = lastT r e.1 := rfl
    rw [heq]
    refine ⟨by omega, fun x hx => ?_, fun _ => ?_⟩
    · rcases List.mem_cons.1 hx with rfl | hx
      · exact k1
      · exact k2 x hx
    · by_cases hr : r = []
      · subst hr; exact ⟨h1, h2⟩
      · exact k3 hr
/-! ## Sets -/
theorem rising_iff {xs : Tx} : rising xs = true ↔ ∀ j, j + 1 < xs.length → xs.getD j [] < xs.getD (j + 1) [] := by
  unfold rising
  rw [decide_eq_true_iff]
  constructor
  · intro h j hj
    have := h (j + 1) hj (by omega)
    rw [Nat.add_sub_cancel, sless_iff] at this
    exact this
  · intro h j hj h1
    obtain ⟨m, rfl⟩ : ∃ m, j = m + 1 := ⟨j - 1, by omega⟩
    rw [Nat.add_sub_cancel, sless_iff]
    exact h m hj
theorem rising_le {xs : Tx} (h : rising xs = true) {i j : Nat} (hij : i < j) (hj : j < xs.length) : xs.getD i [] < xs.getD j [] := by
  rw [rising_iff] at h
  induction j with
  | zero => omega
  | succ j ih =>
    by_cases he : i = j
    · subst he; exact h i hj
    · exact slt_trans (ih (by omega) (by omega)) (h j hj)
theorem addAt_hi (k : List UInt8) (l : Tx) : ∀ n j, addAt k l n ≤ j → j < n → sless (l.getD j []) k = false
  | 0, j, _, h => by omega
  | n + 1, j, h, hj => by
    rw [addAt] at h
    split at h
    · omega
    · rename_i hc
      by_cases hjn : j = n
      · subst hjn; simpa using hc
      · exact addAt_hi k l n j h (by omega)
theorem addAt_lo (k : List UInt8) (l : Tx) : ∀ n, 0 < addAt k l n → sless (l.getD (addAt k l n - 1) []) k = true
  | 0, h => by simp [addAt] at h
  | n + 1, h => by
    rw [addAt] at h ⊢
    split
    · rename_i hc; exact hc
    · rename_i hc
      rw [if_neg hc] at h
      exact addAt_lo k l n h
theorem add_mem (l : Tx) (k : List UInt8) : k ∈ add l k := by
  unfold add
  split
  · rename_i h; exact of_decide_eq_true h
  · simp
theorem getD_app {α : Type} {A B : List α} {i : Nat} (d : α) (h : i < A.length) : (A ++ B).getD i d = A.getD i d := by
  rw [List.getD_eq_getElem?_getD, List.getElem?_append_left h, ← List.getD_eq_getElem?_getD]
theorem getD_app2 {α : Type} {A B : List α} {i : Nat} (d : α) (h : A.length ≤ i) : (A ++ B).getD i d = B.getD (i - A.length) d := by
  rw [List.getD_eq_getElem?_getD, List.getElem?_append_right h, ← List.getD_eq_getElem?_getD]
theorem getD_take {α : Type} {A : List α} {i n : Nat} (d : α) (h : i < n) : (A.take n).getD i d = A.getD i d := by
  rw [List.getD_eq_getElem?_getD, List.getElem?_take_of_lt h, ← List.getD_eq_getElem?_getD]
theorem getD_drop {α : Type} {A : List α} {i n : Nat} (d : α) : (A.drop n).getD i d = A.getD (n + i) d := by
  rw [List.getD_eq_getElem?_getD, List.getElem?_drop, ← List.getD_eq_getElem?_getD]
theorem rising_add {l : Tx} (k : List UInt8) (h : rising l = true) : rising (add l k) = true := by
  unfold add
  split
  · exact h
  rename_i hh
  have hm : k ∉ l := fun hc => hh (decide_eq_true hc)
  have hle := addAt_le k l l.length
  have hhi := addAt_hi k l l.length
  have hlo := addAt_lo k l l.length
  generalize addAt k l l.length = n at hle hhi hlo
  rw [rising_iff]
  intro j hj
  simp only [List.length_append, List.length_take, List.length_drop, List.length_cons, List.length_nil] at hj
  have hnl : (l.take n).length = n := by rw [List.length_take]; omega
  have hr := (rising_iff.1 h)
  have g0 : ∀ i, i < n → (l.take n ++ ([k] ++ l.drop n)).getD i [] = l.getD i [] := fun i hi => by
    rw [getD_app _ (by omega), getD_take _ hi]
  have g1 : (l.take n ++ ([k] ++ l.drop n)).getD n [] = k := by
    rw [getD_app2 _ (by omega), hnl, Nat.sub_self]; rfl
  have g2 : ∀ i, n ≤ i → (l.take n ++ ([k] ++ l.drop n)).getD (i + 1) [] = l.getD i [] := fun i hi => by
    rw [getD_app2 _ (by omega), hnl, getD_app2 _ (by simp; omega), getD_drop]
    congr 1; simp; omega
  rcases Nat.lt_trichotomy (j + 1) n with h1 | h1 | h1
  · rw [g0 _ (by omega), g0 _ h1]
    exact hr j (by omega)
  · rw [g0 _ (by omega), h1, g1]
    have := sless_iff.1 (hlo (by omega))
    rw [show n - 1 = j by omega] at this
    exact this
  · rcases Nat.lt_or_ge j (n + 1) with h2 | h2
    · obtain rfl : j = n := by omega
      rw [g1, g2 _ (Nat.le_refl _)]
      have hg := hhi j (Nat.le_refl _) (by omega)
      rw [sless_eq, decide_eq_false_iff_not] at hg
      by_cases hlt : k < l.getD j []
      · exact hlt
      · exact absurd (slt_total hg hlt ▸ getD_mem [] (show j < l.length by omega)) hm
    · obtain ⟨i, rfl⟩ : ∃ i, j = i + 1 := ⟨j - 1, by omega⟩
      rw [g2 _ (by omega), g2 _ (by omega)]
      exact hr i (by omega)
theorem meet_of {a b : Tx} {k : List UInt8} (ha : k ∈ a) (hb : k ∈ b) : meet a b = true := by
  unfold meet; rw [List.any_eq_true]; exact ⟨k, ha, decide_eq_true hb⟩
theorem add_len (l : Tx) (k : List UInt8) : (add l k).length ≤ l.length + 1 := by
  unfold add
  split
  · omega
  · have := addAt_le k l l.length
    simp; omega
theorem first_none {l : List Ent} {t : Int} (k : Tx) (h : ∀ e ∈ l, e.1 ≤ t) : firstL l t k = none := by
  unfold firstL
  rw [List.find?_eq_none]
  intro e he hc
  unfold firstP at hc
  rw [Bool.and_eq_true, decide_eq_true_iff] at hc
  have := h e he
  omega
theorem law_trims {l : List Ent} {to start : Int} (h : to ≤ start) (k : Tx) (hc : logC 0 l = 0) : firstL (trim l to) start k = firstL l start k ∧ logC 0 (trim l to) = 0 :=
  ⟨first_trim l to start k h, trim_log to l 0 hc⟩
theorem fold_rising (ks : Tx) : rising (ks.foldl add []) = true := by
  have gen : ∀ (ks : Tx) (a : Tx), rising a = true → rising (ks.foldl add a) = true := by
    intro ks
    induction ks with
    | nil => intro a h; exact h
    | cons k r ih => intro a h; exact ih _ (rising_add k h)
  exact gen ks [] (by decide)
theorem fold_len (ks : Tx) : (ks.foldl add []).length ≤ ks.length := by
  have gen : ∀ (ks : Tx) (a : Tx), (ks.foldl add a).length ≤ a.length + ks.length := by
    intro ks
    induction ks with
    | nil => intro a; simp
    | cons k r ih => intro a; have := ih (add a k); have := add_len a k; simp only [List.foldl_cons, List.length_cons]; omega
  simpa using gen ks []
theorem lastT_at {l : List Ent} {i : Nat} {d : Int} (h : i < l.length) : lastT (l.take (i + 1)) d = (l.getD i (0, [])).1 := by
  unfold lastT; rw [foldl_at (0, []) h]
theorem law_note {l : List Ent} {ks : Tx} {t : Int} (hc : logC 0 l = 0) (h1 : lastT l 0 < t) (h2 : 1 ≤ t) (ht : t ≤ 1099511627776) (hk : rising ks = true) : logC 0 (note l t ks) = 0 := by
  unfold note
  split
  · exact hc
  · rename_i hne
    exact log_snoc h2 ht hk (fun h => hne (List.eq_nil_of_length_eq_zero h)) l 0 hc h1
theorem law_second {l : List Ent} (hc : logC 0 l = 0) (a b : Tx) (k : List UInt8) {start : Int} (hs : lastT l 0 = start) :
    firstL (note l (start + 3) (add a k)) start (add b k) = some (start + 3, add a k) ∧ firstL (note l (start + 3) (add a k)) (start + 3) (add b k) = none ∧ firstL (note l (start + 3) (add a k)) 0 [] = none := by
  have hne : add a k ≠ [] := fun h => by have := add_mem a k; rw [h] at this; simp at this
  have hn : note l (start + 3) (add a k) = l ++ [(start + 3, add a k)] := if_neg hne
  obtain ⟨_, h2, _⟩ := lastT_ge l 0 hc
  rw [hn]
  refine ⟨?_, ?_, ?_⟩
  · have h0 := first_none (t := start) (add b k) (fun e he => by have := h2 e he; omega)
    unfold firstL at h0 ⊢
    rw [List.find?_append, h0, List.find?_cons, show firstP start (add b k) (start + 3, add a k) = true by unfold firstP; rw [decide_eq_true (by show start < start + 3; omega), meet_of (add_mem a k) (add_mem b k)]; rfl]
    rfl
  · refine first_none _ fun e he => ?_
    rcases List.mem_append.1 he with he | he
    · have := h2 e he; omega
    · rw [List.mem_singleton.1 he]; exact Int.le_refl _
  · unfold firstL
    rw [List.find?_eq_none]
    intro e he hc
    unfold firstP meet at hc
    rw [Bool.and_eq_true, List.any_eq_true] at hc
    obtain ⟨_, x, _, hx⟩ := hc
    have := of_decide_eq_true hx
    simp at this
end Go.Proofs.Ytlfehkoklgmjjaa
