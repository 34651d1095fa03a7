import Derived.Test.YtoedpnniaikfbaaF7
import Derived.Test.YtoedpnniaikfbaaC7


set_option linter.unusedVariables false
set_option linter.unusedSimpArgs false
set_option maxRecDepth 8000
namespace Go.Proofs.Ytoedpnniaikfbaa
open Go.Eng
/-! ## A stack that may be stays so -/
abbrev NB (a b : Ver) : Prop := badP a b = false
theorem pw_iff {xs : List Ver} : ordered xs = true ↔ xs.Pairwise NB := by
  have e : ∀ i, (hi : i < xs.length) → xs.getD i ver0 = xs[i] := fun i hi => by
    rw [List.getD_eq_getElem?_getD, List.getElem?_eq_getElem hi]; rfl
  rw [ordered_iff, List.pairwise_iff_getElem]
  constructor
  · intro h i j hi hj hij
    have := h j hj i hij
    rwa [e i hi, e j hj] at this
  · intro h j hj k hk
    have := h k j (by omega) hj hk
    rw [e j hj, e k (by omega)]
    exact this
theorem stk_sub {s : Stk} {l : List Ver} (h : check s = 0) (hs : l.Sublist s.2) : check (s.1, l) = 0 := by
  have ok := check_ok.1 h
  exact check_ok.2 ⟨ok.key, Nat.le_trans hs.length_le ok.len, fun v hv => ok.all v (hs.subset hv), pw_iff.2 ((pw_iff.1 ok.ord).sublist hs)⟩
theorem abort_ok {s : Stk} {me : Int} (h : check s = 0) : check (abort s me) = 0 := stk_sub h List.filter_sublist
theorem keepN_sub (at' last : Int) (xs : List Ver) : ∀ n, n ≤ xs.length → (keepN at' last xs n).Sublist (xs.take n)
  | 0, _ => by simp [keepN]
  | n + 1, h => by
    rw [keepN, take_at ver0 (by omega)]
    refine (keepN_sub at' last xs n (by omega)).append ?_
    split
    · exact List.nil_sublist _
    · exact List.Sublist.refl _
theorem prune_ok {s : Stk} {at' : Int} (h : check s = 0) : check (prune s at') = 0 := by
  refine stk_sub h ?_
  have := keepN_sub at' (lastN at' s.2 s.2.length) s.2 s.2.length (Nat.le_refl _)
  rwa [List.take_length] at this
theorem bad_key {a b c d : Ver} (h1 : a.2.1 = c.2.1) (h2 : a.1 = c.1) (h3 : b.2.1 = d.2.1) (h4 : b.1 = d.1) : badP a b = badP c d := by
  unfold badP; rw [h1, h2, h3, h4]
theorem room_iff {me : Int} {v : Ver} : roomP me v = true ↔ v.2.1 = 0 ∧ v.1 = me := by simp [roomP]
theorem pw_set {A B : List Ver} {u v : Ver} (h : (A ++ u :: B).Pairwise NB) (h1 : u.2.1 = v.2.1) (h2 : u.1 = v.1) : (A ++ v :: B).Pairwise NB := by
  rw [List.pairwise_append, List.pairwise_cons] at h ⊢
  obtain ⟨p1, ⟨p2, p3⟩, p4⟩ := h
  refine ⟨p1, ⟨fun b hb => ?_, p3⟩, fun a ha b hb => ?_⟩
  · rw [NB, ← bad_key h1 h2 rfl rfl]; exact p2 b hb
  · rcases List.mem_cons.1 hb with rfl | hb
    · rw [NB, ← bad_key rfl rfl h1 h2]; exact p4 a ha u (by simp)
    · exact p4 a ha b (by simp [hb])
/-- What a Write leaves. -/
theorem write_at {s : Stk} {v : Ver} : (∃ A u B, s.2 = A ++ u :: B ∧ roomP v.1 u = true ∧ (∀ w ∈ A, roomP v.1 w = false) ∧ write s v = (s.1, A ++ (v.1, 0, v.2.2) :: B)) ∨
    ((∀ w ∈ s.2, roomP v.1 w = false) ∧ ((s.2.length < 8 ∧ write s v = (s.1, s.2 ++ [(v.1, 0, v.2.2)])) ∨ (¬ s.2.length < 8 ∧ write s v = s))) := by
  rcases place_split v.1 s.2 with ⟨h1, h2⟩ | ⟨A, u, B, h, h1, h2, h3⟩
  · refine .inr ⟨h2, ?_⟩
    by_cases hl : s.2.length < 8
    · exact .inl ⟨hl, by unfold write; rw [if_neg (by omega), if_pos hl]⟩
    · exact .inr ⟨hl, by unfold write; rw [if_neg (by omega), if_neg hl]⟩
  · refine .inl ⟨A, u, B, h, h3, h2, ?_⟩
    unfold write
    rw [if_pos (by omega), h1, Int.toNat_natCast, h, List.set_append_right _ _ (Nat.le_refl _), Nat.sub_self]; rfl
theorem write_ok {s : Stk} {v : Ver} (h : check s = 0) (hv : VerOk (v.1, 0, v.2.2)) : check (write s v) = 0 := by
  have ok := check_ok.1 h
  have hp := pw_iff.1 ok.ord
  rcases write_at (s := s) (v := v) with ⟨A, u, B, e, hu, hA, hw⟩ | ⟨hn, ⟨hl, hw⟩ | ⟨hl, hw⟩⟩
  · rw [hw]
    have hu := room_iff.1 hu
    rw [e] at hp
    refine check_ok.2 ⟨ok.key, ?_, fun w hw => ?_, pw_iff.2 (pw_set hp hu.1 hu.2)⟩
    · have := ok.len; rw [e] at this; simpa using this
    · rcases List.mem_append.1 hw with hw | hw
      · exact ok.all w (by rw [e]; simp [hw])
      · rcases List.mem_cons.1 hw with rfl | hw
        · exact hv
        · exact ok.all w (by rw [e]; simp [hw])
  · rw [hw]
    refine check_ok.2 ⟨ok.key, by simp; omega, fun w hw => ?_, pw_iff.2 ?_⟩
    · rcases List.mem_append.1 hw with hw | hw
      · exact ok.all w hw
      · rw [List.mem_singleton.1 hw]; exact hv
    · rw [List.pairwise_append]
      refine ⟨hp, List.pairwise_singleton _ _, fun a ha b hb => ?_⟩
      rw [List.mem_singleton.1 hb, NB, bad_false]
      refine ⟨fun h0 => ⟨rfl, fun hc => ?_⟩, fun hc => absurd rfl hc⟩
      have := hn a ha
      rw [room_iff.2 ⟨h0, hc⟩] at this; cases this
  · rw [hw]; exact h
theorem slotN_spec (ts : Int) (ys : List Ver) : ∀ n, n ≤ ys.length → (∀ j, slotN ts ys n ≤ j → j < n → (ys.getD j ver0).2.1 = 0 ∨ ts < (ys.getD j ver0).2.1) ∧ (0 < slotN ts ys n → (ys.getD (slotN ts ys n - 1) ver0).2.1 ≠ 0 ∧ (ys.getD (slotN ts ys n - 1) ver0).2.1 ≤ ts)
  | 0, _ => ⟨fun j _ h => by omega, fun h => by simp [slotN] at h⟩
  | n + 1, hn => by
    have ih := slotN_spec ts ys n (by omega)
    rw [slotN]
    split
    · rename_i hc
      refine ⟨fun j h1 h2 => ?_, ih.2⟩
      rcases Nat.lt_or_ge j n with h3 | h3
      · exact ih.1 j h1 h3
      · have : j = n := by omega
        subst this; exact hc
    · rename_i hc
      rw [not_or] at hc
      exact ⟨fun j h1 h2 => by omega, fun _ => ⟨hc.1, by rw [Nat.add_sub_cancel]; omega⟩⟩
/-- What a Commit leaves. -/
theorem commit_at {s : Stk} {A B : List Ver} {u : Ver} {me ts : Int} (h : s.2 = A ++ u :: B) (hA : ∀ v ∈ A, roomP me v = false) (hu : roomP me u = true) (h1 : 1 ≤ ts) :
    commit s me ts = (s.1, (A ++ B).take (slotN ts (A ++ B) (A ++ B).length) ++ (u.1, ts, u.2.2) :: (A ++ B).drop (slotN ts (A ++ B) (A ++ B).length)) := by
  have hp : idxF (roomP me) s.2 0 = A.length := by
    have gen : ∀ (A : List Ver) (i : Nat), (∀ v ∈ A, roomP me v = false) → idxF (roomP me) (A ++ u :: B) i = i + A.length := by
      intro A
      induction A with
      | nil => intro i _; rw [List.nil_append, idxF, if_pos hu]; simp
      | cons x r ih =>
        intro i hx
        rw [List.cons_append, idxF, if_neg (by rw [hx x (by simp)]; simp), ih (i + 1) (fun v hv => hx v (by simp [hv]))]
        simp; omega
    rw [h, gen A 0 hA]; simp
  have hcut : cut s.2 A.length = A ++ B := by
    unfold cut
    rw [h, List.take_left' rfl, List.drop_append, List.drop_of_length_le (by omega), show A.length + 1 - A.length = 1 by omega]; rfl
  have hget : s.2.getD A.length ver0 = u := by
    rw [h, List.getD_eq_getElem?_getD, List.getElem?_append_right (Nat.le_refl _), Nat.sub_self]; rfl
  unfold commit
  rw [if_neg (by rw [hp]; omega), hp, Int.toNat_natCast, hcut, hget]; rfl
theorem commit_no {s : Stk} {me ts : Int} (h : ∀ v ∈ s.2, roomP me v = false) : commit s me ts = s := by
  have : idxF (roomP me) s.2 0 = -1 := by
    rcases place_split me s.2 with ⟨h1, _⟩ | ⟨A, u, B, e, _, _, h3⟩
    · exact h1
    · have := h u (by rw [e]; simp)
      rw [h3] at this; cases this
  unfold commit
  rw [if_pos (.inl (by omega))]
theorem commit_ok {s : Stk} {me ts : Int} (h : check s = 0) (hts : ts ≤ 1099511627776) : check (commit s me ts) = 0 := by
  have ok := check_ok.1 h
  have hp := pw_iff.1 ok.ord
  by_cases h1 : 1 ≤ ts
  rotate_left
  · unfold commit; rw [if_pos (.inr (by omega))]; exact h
  rcases place_split me s.2 with ⟨_, h2⟩ | ⟨A, u, B, e, _, h2, h3⟩
  · rw [commit_no h2]; exact h
  · rw [commit_at e h2 h3 h1]
    have hsub : (A ++ B).Sublist s.2 := by rw [e]; exact (List.Sublist.refl A).append (List.sublist_cons_self u B)
    have hpy : (A ++ B).Pairwise NB := hp.sublist hsub
    have hq := slotN_le (ts := ts) (ys := A ++ B) (A ++ B).length
    obtain ⟨hs1, hs2⟩ := slotN_spec ts (A ++ B) (A ++ B).length (Nat.le_refl _)
    generalize slotN ts (A ++ B) (A ++ B).length = q at hq hs1 hs2
    have hall : ∀ v ∈ A ++ B, VerOk v := fun v hv => ok.all v (hsub.subset hv)
    have hu := ok.all u (by rw [e]; simp)
    have hyl : (A ++ B).length + 1 = s.2.length := by rw [e]; simp; omega
    generalize A ++ B = ys at *
    refine check_ok.2 ⟨ok.key, ?_, fun w hw => ?_, pw_iff.2 ?_⟩
    · have h8 := ok.len
      simp; omega
    · rcases List.mem_append.1 hw with hw | hw
      · exact hall w (List.mem_of_mem_take hw)
      · rcases List.mem_cons.1 hw with rfl | hw
        · exact ⟨hu.val, hu.gone, hu.txn, by dsimp only; omega⟩
        · exact hall w (List.mem_of_mem_drop hw)
    · have hp2 := hpy
      rw [← List.take_append_drop q ys, List.pairwise_append] at hp2
      rw [List.pairwise_append, List.pairwise_cons]
      have hmem : ∀ b ∈ ys.drop q, b.2.1 = 0 ∨ ts < b.2.1 := fun b hb => by
        obtain ⟨i, hi, rfl⟩ := List.mem_iff_getElem.1 hb
        simp at hi
        have := hs1 (q + i) (by omega) (by omega)
        rw [List.getD_eq_getElem?_getD, List.getElem?_eq_getElem (by omega)] at this
        simpa using this
      have hlow : ∀ a ∈ ys.take q, a.2.1 ≠ 0 ∧ a.2.1 ≤ ts := fun a ha => by
        obtain ⟨i, hi, rfl⟩ := List.mem_iff_getElem.1 ha
        simp at hi
        obtain ⟨k1, k2⟩ := hs2 (by omega)
        rw [List.getD_eq_getElem?_getD, List.getElem?_eq_getElem (by omega)] at k1 k2
        simp only [Option.getD_some] at k1 k2
        rw [List.getElem_take]
        by_cases hi1 : i = q - 1
        · subst hi1; exact ⟨k1, k2⟩
        · have := bad_false.1 (List.pairwise_iff_getElem.1 hpy i (q - 1) (by omega) (by omega) (by omega))
          exact ⟨fun h0 => k1 (this.1 h0).1, Int.le_trans (this.2 k1) k2⟩
      refine ⟨hp2.1, ⟨fun b hb => ?_, hp2.2.1⟩, fun a ha b hb => ?_⟩
      · rw [NB, bad_false]
        dsimp only
        refine ⟨fun h0 => by omega, fun h0 => ?_⟩
        rcases hmem b hb with h4 | h4
        · exact absurd h4 h0
        · omega
      · rcases List.mem_cons.1 hb with rfl | hb
        · rw [NB, bad_false]
          exact ⟨fun h0 => absurd h0 (hlow a ha).1, fun _ => (hlow a ha).2⟩
        · exact hp2.2.2 a ha b hb
theorem getS_more {s : Stk} (h : check s = 0) : getS (putS s ++ [0]) = (([], []), 4) := getS_not fun s' hs hb => by
  have h1 := takeF_put hs []
  have h2 := takeF_put h [0]
  rw [List.append_nil, hb, h2] at h1
  simp at h1
end Go.Proofs.Ytoedpnniaikfbaa
