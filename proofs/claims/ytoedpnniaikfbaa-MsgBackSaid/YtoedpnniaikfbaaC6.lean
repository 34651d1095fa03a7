import Derived.Test.YtoedpnniaikfbaaC5


set_option linter.unusedVariables false
set_option linter.unusedSimpArgs false
namespace Go.Proofs.Ytoedpnniaikfbaa
open Go.Eng
/-! ## Pruned -/
theorem split_fine (at' : Int) : ∀ (xs : List Ver), xs.Pairwise (fun a b => b.2.1 = 0 ∨ (a.2.1 ≠ 0 ∧ a.2.1 ≤ b.2.1)) → (∀ v ∈ xs, 0 ≤ v.2.1) →
    ∃ P Q, xs = P ++ Q ∧ (∀ v ∈ P, okTs at' v = true) ∧ (∀ v ∈ Q, okTs at' v = false)
  | [], _, _ => ⟨[], [], rfl, by simp, by simp⟩
  | v :: r, h, h0 => by
    cases hv : okTs at' v
    · refine ⟨[], v :: r, rfl, by simp, fun w hw => ?_⟩
      rcases List.mem_cons.1 hw with rfl | hw
      · exact hv
      · have h1 := (List.pairwise_cons.1 h).1 w hw
        have h2 := h0 v (by simp)
        refine decide_eq_false fun hc => ?_
        have h3 := of_decide_eq_false hv
        omega
    · obtain ⟨P, Q, rfl, h1, h2⟩ := split_fine at' r (List.pairwise_cons.1 h).2 (fun w hw => h0 w (by simp [hw]))
      exact ⟨v :: P, Q, rfl, fun w hw => by
        rcases List.mem_cons.1 hw with rfl | hw
        · exact hv
        · exact h1 w hw, h2⟩
def kept (P : List Ver) : List Ver := match P.getLast? with
  | none => []
  | some v => if v.2.2.1 = true then [] else [v]
theorem getD_left {P Q : List Ver} {i : Nat} (h : i < P.length) : (P ++ Q).getD i ver0 = P.getD i ver0 := by
  simp [List.getD, List.getElem?_append_left h]
theorem getD_right {P Q : List Ver} {i : Nat} : (P ++ Q).getD (P.length + i) ver0 = Q.getD i ver0 := by
  rw [List.getD_eq_getElem?_getD, List.getElem?_append_right (by omega), Nat.add_sub_cancel_left, List.getD_eq_getElem?_getD]
theorem lastN_split {at' : Int} {P Q : List Ver} (hP : ∀ v ∈ P, okTs at' v = true) (hQ : ∀ v ∈ Q, okTs at' v = false) : ∀ n, n ≤ Q.length → lastN at' (P ++ Q) (P.length + n) = (P.length : Int) - 1
  | 0, _ => by
    cases hl : P.length with
    | zero => rfl
    | succ m =>
      rw [Nat.add_zero, lastN, getD_left (by omega), if_pos (hP _ (getD_mem ver0 (by omega)))]
      omega
  | n + 1, h => by
    rw [← Nat.add_assoc, lastN, getD_right, if_neg (by rw [hQ _ (getD_mem ver0 (by omega))]; simp)]
    exact lastN_split hP hQ n (by omega)
theorem keepN_split {at' : Int} {P Q : List Ver} (hP : ∀ v ∈ P, okTs at' v = true) (hQ : ∀ v ∈ Q, okTs at' v = false) : keepN at' ((P.length : Int) - 1) (P ++ Q) (P.length + Q.length) = kept P ++ Q := by
  have h1 : ∀ n, n < P.length → keepN at' ((P.length : Int) - 1) (P ++ Q) n = [] := by
    intro n
    induction n with
    | zero => intro _; rfl
    | succ n ih =>
      intro h
      rw [keepN, ih (by omega), getD_left (by omega), if_pos]
      · rfl
      · simp only [dropP, Bool.and_eq_true, Bool.or_eq_true, bne_iff_ne]
        exact ⟨hP _ (getD_mem ver0 (by omega)), .inl (by omega)⟩
  have h2 : keepN at' ((P.length : Int) - 1) (P ++ Q) P.length = kept P := by
    cases hl : P.length with
    | zero =>
      have : P = [] := List.eq_nil_of_length_eq_zero hl
      subst this; rfl
    | succ m =>
      have hm : m < P.length := by omega
      have hlast : P.getLast? = some (P.getD m ver0) := by
        rw [List.getLast?_eq_getElem?, hl, List.getD_eq_getElem?_getD, Nat.add_sub_cancel, List.getElem?_eq_getElem hm]; rfl
      have h3 := h1 m hm
      rw [hl] at h3
      rw [keepN, h3, getD_left hm, kept, hlast, List.nil_append]
      have h4 : dropP at' (((m + 1 : Nat) : Int) - 1) m (P.getD m ver0) = (P.getD m ver0).2.2.1 := by
        rw [dropP, hP _ (getD_mem ver0 hm), show (((m + 1 : Nat) : Int) - 1) = (m : Int) by omega]
        simp
      rw [h4]
  have h3 : ∀ n, n ≤ Q.length → keepN at' ((P.length : Int) - 1) (P ++ Q) (P.length + n) = kept P ++ Q.take n := by
    intro n
    induction n with
    | zero => intro _; rw [Nat.add_zero, h2]; simp
    | succ n ih =>
      intro h
      rw [← Nat.add_assoc, keepN, ih (by omega), getD_right, if_neg]
      · rw [List.append_assoc, take_at ver0 (by omega)]
      · simp only [dropP, hQ _ (getD_mem ver0 (show n < Q.length by omega)), Bool.false_and]
        simp
  rw [h3 _ (Nat.le_refl _), List.take_length]
theorem prune_split {s : Stk} {at' : Int} {P Q : List Ver} (h : s.2 = P ++ Q) (hP : ∀ v ∈ P, okTs at' v = true) (hQ : ∀ v ∈ Q, okTs at' v = false) : (prune s at').2 = kept P ++ Q := by
  show keepN at' (lastN at' s.2 s.2.length) s.2 s.2.length = _
  rw [h, List.length_append, lastN_split hP hQ _ (Nat.le_refl _), keepN_split hP hQ]
theorem kept_mem {P : List Ver} {v : Ver} (h : v ∈ kept P) : v ∈ P ∧ v.2.2.1 = false := by
  unfold kept at h
  split at h
  · simp at h
  · rename_i w hw
    split at h
    · simp at h
    · obtain rfl := List.mem_singleton.1 h
      rename_i hg
      exact ⟨List.mem_of_getLast? hw, by simpa using hg⟩
theorem bestV_none {at' : Int} : ∀ {P : List Ver}, (∀ v ∈ P, okTs at' v = false) → bestV at' P = none
  | [], _ => rfl
  | v :: r, h => by
    rw [bestV, bestV_none (fun w hw => h w (by simp [hw]))]
    exact if_neg (of_decide_eq_false (h v (by simp)))
theorem bestV_some {at' : Int} {w : Ver} : ∀ {P : List Ver}, bestV at' P = some w → w ∈ P ∧ okTs at' w = true
  | [], h => by cases h
  | v :: r, h => by
    rw [bestV] at h
    split at h
    · split at h
      · cases h; exact ⟨by simp, decide_eq_true (by assumption)⟩
      · cases h
    · rename_i u hu
      split at h
      · rename_i hc
        cases h; exact ⟨by simp, decide_eq_true hc.1⟩
      · cases h
        obtain ⟨h1, h2⟩ := bestV_some hu
        exact ⟨by simp [h1], h2⟩
theorem bestV_over {at' : Int} {Q : List Ver} {w : Ver} (hQ : bestV at' Q = some w) : ∀ {P : List Ver}, (∀ v ∈ P, v.2.1 ≤ w.2.1) → bestV at' (P ++ Q) = some w
  | [], _ => hQ
  | v :: r, h => by
    rw [List.cons_append, bestV, bestV_over hQ (fun u hu => h u (by simp [hu]))]
    exact if_neg (fun hc => by have := h v (by simp); omega)
theorem bestV_app {at' : Int} {Q : List Ver} (hQ : bestV at' Q = none) : ∀ (P : List Ver), bestV at' (P ++ Q) = bestV at' P
  | [] => hQ
  | v :: r => by
    rw [List.cons_append, bestV, bestV, bestV_app hQ r]
theorem bestV_last {at' : Int} : ∀ {P : List Ver}, (∀ v ∈ P, okTs at' v = true) → P.Pairwise (fun a b => a.2.1 ≤ b.2.1) → bestV at' P = P.getLast?
  | [], _, _ => rfl
  | [v], h, _ => by
    rw [bestV]; exact if_pos (of_decide_eq_true (h v (by simp)))
  | v :: u :: r, h, hs => by
    have h1 := bestV_last (at' := at') (P := u :: r) (fun w hw => h w (by simp [hw])) (List.pairwise_cons.1 hs).2
    rw [bestV, h1]
    have hne : (u :: r).getLast? = some ((u :: r).getLast (by simp)) := List.getLast?_eq_some_getLast (by simp)
    rw [hne]
    have h2 := (List.pairwise_cons.1 hs).1 ((u :: r).getLast (by simp)) (List.getLast_mem _)
    show (if _ then _ else _) = _
    rw [if_neg (fun hc => by omega), List.getLast?_cons_cons, hne]
theorem find_none' {me : Int} {P : List Ver} (h : ∀ v ∈ P, v.2.1 ≠ 0) : P.find? (pend me) = none := by
  rw [List.find?_eq_none]
  intro v hv hc
  exact h v hv (of_decide_eq_true hc).1
theorem prune_law {s : Stk} {me a b : Int} (hf : Fine s.2) (hab : a ≤ b) : readV s me b = readV (prune s a) me b ∧ newer s me b = newer (prune s a) me b ∧ settled (prune s a) a = true := by
  obtain ⟨P, Q, h, hP, hQ⟩ := split_fine a s.2 hf.srt (fun v hv => (hf.ts v hv).1)
  have hp := prune_split h hP hQ
  have hP1 : ∀ v ∈ P, 1 ≤ v.2.1 ∧ v.2.1 ≤ a := fun v hv => of_decide_eq_true (hP v hv)
  have hK1 : ∀ v ∈ kept P, (1 ≤ v.2.1 ∧ v.2.1 ≤ a) ∧ v.2.2.1 = false := fun v hv => ⟨hP1 v (kept_mem hv).1, (kept_mem hv).2⟩
  have hPs : P.Pairwise (fun x y => x.2.1 ≤ y.2.1) := by
    have h1 := hf.srt
    rw [h] at h1
    exact (List.pairwise_append.1 h1).1.imp_of_mem fun hx hy hr => by
      have := hP1 _ hx
      have := hP1 _ hy
      omega
  refine ⟨?_, ?_, ?_⟩
  · rw [read_sel, read_sel, hp, h]
    have hf1 : (P ++ Q).find? (pend me) = Q.find? (pend me) := by
      rw [List.find?_append, find_none' (fun v hv => by have := hP1 v hv; omega)]; rfl
    have hf2 : (kept P ++ Q).find? (pend me) = Q.find? (pend me) := by
      rw [List.find?_append, find_none' (fun v hv => by have := hK1 v hv; omega)]; rfl
    unfold sel
    rw [hf1, hf2]
    cases hq : Q.find? (pend me) with
    | some v => rfl
    | none =>
      dsimp only
      cases hb : bestV b Q with
      | some w =>
        have hw := bestV_some hb
        have hwb := of_decide_eq_true hw.2
        have hwn := of_decide_eq_false (hQ w hw.1)
        rw [bestV_over hb (fun v hv => by have := hP1 v hv; omega), bestV_over hb (fun v hv => by have := (hK1 v hv).1; omega)]
      | none =>
        rw [bestV_app hb, bestV_app hb, bestV_last (fun v hv => decide_eq_true (by have := hP1 v hv; omega)) hPs]
        unfold kept
        cases hl : P.getLast? with
        | none => rfl
        | some v =>
          dsimp only
          by_cases hg : v.2.2.1 = true
          · rw [if_pos hg, outV, if_pos hg]; rfl
          · have hv := hP1 v (List.mem_of_getLast? hl)
            rw [if_neg hg]
            show _ = outV (if 1 ≤ v.2.1 ∧ v.2.1 ≤ b then some v else none)
            rw [if_pos (by omega)]
  · unfold newer
    rw [hp, h, List.any_append, List.any_append]
    have h1 : P.any (newerP b me) = false := by
      rw [List.any_eq_false]; intro v hv hc
      have := hP1 v hv
      simp only [newerP, Bool.and_eq_true, decide_eq_true_eq] at hc
      omega
    have h2 : (kept P).any (newerP b me) = false := by
      rw [List.any_eq_false]; intro v hv hc
      have := (hK1 v hv).1
      simp only [newerP, Bool.and_eq_true, decide_eq_true_eq] at hc
      omega
    rw [h1, h2]
  · unfold settled
    rw [hp]
    have hq0 : Q.countP (okTs a) = 0 := by
      rw [List.countP_eq_zero]; intro v hv; rw [hQ v hv]; simp
    refine decide_eq_true ?_
    rw [List.countP_append, hq0, Nat.add_zero]
    unfold kept
    cases hl : P.getLast? with
    | none => left; rfl
    | some v =>
      dsimp only
      by_cases hg : v.2.2.1 = true
      · rw [if_pos hg]; left; rfl
      · rw [if_neg hg]
        right
        refine ⟨?_, .inr ?_⟩
        · rw [List.countP_singleton, hP v (List.mem_of_getLast? hl)]; rfl
        · show v.2.2.1 = false
          simpa using hg
end Go.Proofs.Ytoedpnniaikfbaa
