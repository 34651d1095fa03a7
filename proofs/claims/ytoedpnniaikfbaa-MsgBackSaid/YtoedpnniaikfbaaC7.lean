import Derived.Test.YtoedpnniaikfbaaC6


set_option linter.unusedVariables false
set_option linter.unusedSimpArgs false
namespace Go.Proofs.Ytoedpnniaikfbaa
open Go.Eng
/-! ## Written, committed -/
theorem roomP_iff {me : Int} {v : Ver} : roomP me v = true ↔ v.2.1 = 0 ∧ v.1 = me := by simp [roomP]
/-- Where a transaction's pending version stands, if there is one. -/
theorem place_split (me : Int) (xs : List Ver) : (idxF (roomP me) xs 0 = -1 ∧ ∀ v ∈ xs, roomP me v = false) ∨
    ∃ A u B, xs = A ++ u :: B ∧ idxF (roomP me) xs 0 = A.length ∧ (∀ v ∈ A, roomP me v = false) ∧ roomP me u = true := by
  have gen : ∀ (xs : List Ver) (i : Nat), (idxF (roomP me) xs i = -1 ∧ ∀ v ∈ xs, roomP me v = false) ∨
    ∃ A u B, xs = A ++ u :: B ∧ idxF (roomP me) xs i = i + A.length ∧ (∀ v ∈ A, roomP me v = false) ∧ roomP me u = true := by
    intro xs
    induction xs with
    | nil => intro i; exact .inl ⟨rfl, by simp⟩
    | cons x r ih =>
      intro i
      cases hx : roomP me x
      · rw [idxF, if_neg (by rw [hx]; simp)]
        rcases ih (i + 1) with ⟨h1, h2⟩ | ⟨A, u, B, rfl, h1, h2, h3⟩
        · exact .inl ⟨h1, fun v hv => by rcases List.mem_cons.1 hv with rfl | hv; exact hx; exact h2 v hv⟩
        · exact .inr ⟨x :: A, u, B, rfl, by rw [h1]; simp; omega, fun v hv => by rcases List.mem_cons.1 hv with rfl | hv; exact hx; exact h2 v hv, h3⟩
      · rw [idxF, if_pos hx]
        exact .inr ⟨[], x, r, rfl, by simp, by simp, hx⟩
  have := gen xs 0
  simpa using this
theorem rel_room {me at' txn : Int} {v : Ver} (hne : me ≠ txn) (h : roomP txn v = true) : rel me at' v = false := by
  have h := roomP_iff.1 h
  unfold rel
  rw [Bool.or_eq_false_iff]
  exact ⟨decide_eq_false (fun hc => by omega), decide_eq_false (fun hc => by omega)⟩
/-- The stack behind a Write: the version stands where none of its transaction stood ahead of it. -/
theorem write_split {s : Stk} {v : Ver} (hr : room s v.1 = true) : ∃ A B, (write s v).2 = A ++ (v.1, 0, v.2.2) :: B ∧ (∀ u ∈ A, roomP v.1 u = false) ∧ (∀ u ∈ A ++ B, u ∈ s.2) ∧
    ∀ me at', me ≠ v.1 → (A ++ B).filter (rel me at') = s.2.filter (rel me at') := by
  rcases place_split v.1 s.2 with ⟨h1, h2⟩ | ⟨A, u, B, h, h1, h2, h3⟩
  · refine ⟨s.2, [], ?_, h2, by simp, fun me at' _ => by simp⟩
    have hl : s.2.length < 8 := by
      unfold room at hr
      rw [Bool.or_eq_true] at hr
      rcases hr with hr | hr
      · exact of_decide_eq_true hr
      · rw [List.any_eq_true] at hr
        obtain ⟨u, hu, hc⟩ := hr
        rw [h2 u hu] at hc; cases hc
    unfold write
    rw [if_neg (by omega), if_pos hl]
  · refine ⟨A, B, ?_, h2, fun w hw => by rw [h]; rcases List.mem_append.1 hw with hw | hw <;> simp [hw], fun me at' hne => ?_⟩
    · unfold write
      rw [if_pos (by omega), h1, Int.toNat_natCast, h, List.set_append_right _ _ (Nat.le_refl _), Nat.sub_self]; rfl
    · rw [h, List.filter_append, List.filter_append, List.filter_cons, if_neg (by rw [rel_room hne h3]; simp)]
theorem slotN_rest {ts : Int} {ys : List Ver} : ∀ n, n ≤ ys.length → (∀ v ∈ ys, v.2.1 ≤ ts) → ∀ v ∈ (ys.take n).drop (slotN ts ys n), v.2.1 = 0
  | 0, _, _, v, hv => by simp [slotN] at hv
  | n + 1, hn, h, v, hv => by
    rw [slotN] at hv
    split at hv
    · rename_i hc
      have h1 : (ys.getD n ver0).2.1 = 0 := by
        rcases hc with hc | hc
        · exact hc
        · have := h _ (getD_mem ver0 (show n < ys.length by omega)); omega
      rw [take_at ver0 (by omega), List.drop_append_of_le_length (by have := slotN_le (ts := ts) (ys := ys) n; simp; omega)] at hv
      rcases List.mem_append.1 hv with hv | hv
      · exact slotN_rest n (by omega) h v hv
      · obtain rfl := List.mem_singleton.1 hv
        exact h1
    · rw [List.drop_eq_nil_of_le (by simp; omega)] at hv
      simp at hv
/-- The stack behind a Commit of what was written: the version stands somewhere in what was there besides, behind it nothing but what is pending. -/
theorem commit_split {s : Stk} {A B : List Ver} {u : Ver} {ts : Int} (h : s.2 = A ++ u :: B) (hA : ∀ v ∈ A, roomP u.1 v = false) (hu : u.2.1 = 0) (h1 : 1 ≤ ts) (hts : ∀ v ∈ A ++ B, v.2.1 ≤ ts) :
    ∃ C D, (commit s u.1 ts).2 = C ++ (u.1, ts, u.2.2) :: D ∧ A ++ B = C ++ D ∧ ∀ v ∈ D, v.2.1 = 0 := by
  have hu' : roomP u.1 u = true := roomP_iff.2 ⟨hu, rfl⟩
  have hp : idxF (roomP u.1) s.2 0 = A.length := by
    rcases place_split u.1 s.2 with ⟨h2, h3⟩ | ⟨A', u', B', h3, h4, h5, h6⟩
    · have := h3 u (by rw [h]; simp)
      rw [hu'] at this; cases this
    · rw [h4]
      rw [h] at h3
      rcases Nat.lt_trichotomy A.length A'.length with hl | hl | hl
      · have := congrArg (fun l => l[A.length]?) h3
        simp only [List.getElem?_append_left hl] at this
        rw [List.getElem?_append_right (Nat.le_refl _)] at this
        simp at this
        have hm : u ∈ A' := by rw [List.mem_iff_getElem?]; exact ⟨_, this.symm⟩
        have := h5 u hm
        rw [hu'] at this; cases this
      · rw [hl]
      · have := congrArg (fun l => l[A'.length]?) h3
        simp only [List.getElem?_append_left hl] at this
        rw [List.getElem?_append_right (Nat.le_refl _)] at this
        simp at this
        have hm : u' ∈ A := by rw [List.mem_iff_getElem?]; exact ⟨_, this⟩
        have := hA u' hm
        rw [h6] at this; cases this
  have hcut : cut s.2 A.length = A ++ B := by
    unfold cut
    rw [h, List.take_left' rfl, List.drop_append, List.drop_of_length_le (by omega), show A.length + 1 - A.length = 1 by omega]; rfl
  have hget : s.2.getD A.length ver0 = u := by rw [h, show A.length = A.length + 0 by omega, getD_right]; rfl
  have hC : (commit s u.1 ts).2 = (A ++ B).take (slotN ts (A ++ B) (A ++ B).length) ++ ([(u.1, ts, u.2.2)] ++ (A ++ B).drop (slotN ts (A ++ B) (A ++ B).length)) := by
    unfold commit
    rw [if_neg (by rw [hp]; omega), hp, Int.toNat_natCast, hcut, hget]
  refine ⟨(A ++ B).take (slotN ts (A ++ B) (A ++ B).length), (A ++ B).drop (slotN ts (A ++ B) (A ++ B).length), hC, (List.take_append_drop _ _).symm, fun v hv => ?_⟩
  refine slotN_rest (ts := ts) (ys := A ++ B) (A ++ B).length (Nat.le_refl _) hts v ?_
  rw [List.take_length]; exact hv
theorem find_app {me : Int} {A B : List Ver} {u : Ver} (h : pend me u = false) : (A ++ u :: B).find? (pend me) = (A ++ B).find? (pend me) := by
  rw [List.find?_append, List.find?_append, List.find?_cons, h]
theorem find_rel {me at' : Int} {xs ys : List Ver} (h : xs.filter (rel me at') = ys.filter (rel me at')) : xs.find? (pend me) = ys.find? (pend me) := by
  rw [← find_filter (p := rel me at') (fun v hv => by unfold rel; rw [hv]; rfl) xs, h, find_filter (fun v hv => by unfold rel; rw [hv]; rfl)]
theorem filter_skip {p : Ver → Bool} {A B : List Ver} {u : Ver} (h : p u = false) : (A ++ u :: B).filter p = (A ++ B).filter p := by
  rw [List.filter_append, List.filter_append, List.filter_cons, if_neg (by rw [h]; simp)]
def maxT (xs : List Ver) : Int := xs.foldl (fun m v => if v.2.1 + 1 > m then v.2.1 + 1 else m) 1
theorem maxT_gen (xs : List Ver) : ∀ m : Int, m ≤ xs.foldl (fun m v => if v.2.1 + 1 > m then v.2.1 + 1 else m) m ∧ ∀ v ∈ xs, v.2.1 < xs.foldl (fun m v => if v.2.1 + 1 > m then v.2.1 + 1 else m) m := by
  induction xs with
  | nil => intro m; exact ⟨Int.le_refl _, by simp⟩
  | cons x r ih =>
    intro m
    rw [List.foldl_cons]
    obtain ⟨h1, h2⟩ := ih (if x.2.1 + 1 > m then x.2.1 + 1 else m)
    refine ⟨?_, fun v hv => ?_⟩
    · split at h1 <;> split <;> omega
    · rcases List.mem_cons.1 hv with rfl | hv
      · split at h1 <;> split <;> omega
      · exact h2 v hv
theorem maxT_le (xs : List Ver) : ∀ m : Int, m ≤ 1099511627777 → (∀ v ∈ xs, v.2.1 ≤ 1099511627776) → xs.foldl (fun m v => if v.2.1 + 1 > m then v.2.1 + 1 else m) m ≤ 1099511627777 := by
  induction xs with
  | nil => intro m h _; exact h
  | cons x r ih =>
    intro m h hx
    rw [List.foldl_cons]
    refine ih _ ?_ (fun v hv => hx v (by simp [hv]))
    have := hx x (by simp)
    split <;> omega
theorem maxT_law (xs : List Ver) : 1 ≤ maxT xs ∧ ∀ v ∈ xs, v.2.1 < maxT xs := maxT_gen xs 1
section
variable {s : Stk} {v : Ver} {me at' : Int}
theorem law_own (hr : room s v.1 = true) (h0 : 0 ≤ v.1) : readV (write s v) v.1 0 = outV (some (v.1, 0, v.2.2)) := by
  obtain ⟨A, B, h, hA, _, _⟩ := write_split hr
  rw [read_sel, h]
  unfold sel
  have : (A ++ (v.1, 0, v.2.2) :: B).find? (pend v.1) = some (v.1, 0, v.2.2) := by
    rw [List.find?_append]
    have h1 : A.find? (pend v.1) = none := by
      rw [List.find?_eq_none]
      intro u hu hc
      have hc := of_decide_eq_true hc
      have := hA u hu
      rw [roomP_iff.2 ⟨hc.1, hc.2.1⟩] at this
      cases this
    have h2 : pend v.1 (v.1, 0, v.2.2) = true := decide_eq_true ⟨rfl, rfl, h0⟩
    rw [h1, List.find?_cons, h2]; rfl
  rw [this]
theorem law_others (hr : room s v.1 = true) (hne : me ≠ v.1) : readV (write s v) me at' = readV s me at' := by
  obtain ⟨A, B, h, hA, _, hf⟩ := write_split hr
  rw [read_sel, read_sel]
  refine congrArg outV (sel_eq ?_)
  rw [h, filter_skip (rel_room (v := (v.1, 0, v.2.2)) hne (roomP_iff.2 ⟨rfl, rfl⟩)), hf me at' hne]
theorem law_commit (hr : room s v.1 = true) (hne : me ≠ v.1) (h1 : 1 ≤ at') (ht : ∀ u ∈ s.2, u.2.1 < at') :
    (readV (commit (write s v) v.1 at') me at' = match s.2.find? (pend me) with | some _ => readV s me at' | none => outV (some (v.1, at', v.2.2))) ∧
    readV (commit (write s v) v.1 at') me (at' - 1) = readV s me (at' - 1) ∧ newer (commit (write s v) v.1 at') me (at' - 1) = true := by
  obtain ⟨A, B, h, hA, hm, hf⟩ := write_split hr
  have hts : ∀ u ∈ A ++ B, u.2.1 < at' := fun u hu => ht u (hm u hu)
  obtain ⟨C, D, hc, hCD, hD⟩ := commit_split (u := (v.1, 0, v.2.2)) (ts := at') h hA rfl h1 (fun u hu => Int.le_of_lt (hts u hu))
  have hnp : pend me (v.1, at', v.2.2) = false := decide_eq_false (fun hh => by have := hh.1; dsimp only at this; omega)
  have hfind : (commit (write s v) v.1 at').2.find? (pend me) = s.2.find? (pend me) := by
    rw [hc, find_app hnp, ← hCD]
    exact find_rel (hf me at' hne)
  refine ⟨?_, ?_, ?_⟩
  · rw [read_sel]
    unfold sel
    rw [hfind]
    cases hs : s.2.find? (pend me) with
    | some w =>
      rw [read_sel]
      unfold sel
      rw [hs]
    | none =>
      dsimp only
      rw [hc]
      have hDn : bestV at' D = none := bestV_none (fun u hu => decide_eq_false (fun hh => by have := hD u hu; omega))
      have : bestV at' ((v.1, at', v.2.2) :: D) = some (v.1, at', v.2.2) := by
        rw [bestV, hDn]; exact if_pos ⟨h1, Int.le_refl _⟩
      rw [bestV_over this (fun u hu => Int.le_of_lt (hts u (by rw [hCD]; simp [hu])))]
  · rw [read_sel, read_sel]
    refine congrArg outV (sel_eq ?_)
    rw [hc, filter_skip, ← hCD, hf me (at' - 1) hne]
    unfold rel
    rw [hnp, Bool.false_or]
    exact decide_eq_false (fun hh => by have := hh.2; dsimp only at this; omega)
  · unfold newer
    rw [hc, List.any_append, List.any_cons]
    have : newerP (at' - 1) me (v.1, at', v.2.2) = true := by
      simp only [newerP, Bool.and_eq_true, decide_eq_true_eq, bne_iff_ne]
      exact ⟨by omega, fun hh => hne hh.symm⟩
    rw [this]; simp
end
end Go.Proofs.Ytoedpnniaikfbaa
