import Derived.Test.YtlfehkoklgmjjaaG11


set_option linter.unusedVariables false
set_option linter.unusedSimpArgs false
set_option maxRecDepth 8000
set_option maxHeartbeats 4000000
namespace Go.Proofs.Ytlfehkoklgmjjaa
open Go.Eng
/-- A leaf that was packed. -/
def Packed (x : List Stk) : Prop := x ≠ [] ∧ (sizeF x ≤ 700 ∨ x.length = 1)
theorem take_cut {α : Type} {l : List α} {f i : Nat} (h : f ≤ i) : l.take f ++ (l.take i).drop f = l.take i := by
  conv => rhs; rw [← List.take_append_drop f (l.take i), List.take_take, Nat.min_eq_left h]
theorem runP_flat (l : List Stk) : ∀ n, (runP l n).1.flatten = l.take (runP l n).2
  | 0 => by simp [runP]
  | n + 1 => by
    have h := runP_flat l n
    have hr := runP_le l n
    rw [runP_succ, stepP]
    split
    · rw [List.flatten_append, h]
      simp only [List.flatten_cons, List.flatten_nil, List.append_nil]
      exact take_cut hr.1
    · exact h
theorem leaves_flat (l : List Stk) : (leavesF l).flatten = l := by
  rw [leavesF, List.flatten_append, runP_flat]
  simp
theorem runP_packed (l : List Stk) : ∀ n, n ≤ l.length → (∀ x ∈ (runP l n).1, Packed x) ∧ ((runP l n).2 < n → Packed ((l.take n).drop (runP l n).2)) ∧ (0 < n → (runP l n).2 < n)
  | 0, _ => by simp [runP]
  | n + 1, hn => by
    obtain ⟨h1, h2, h3⟩ := runP_packed l n (by omega)
    have hr := runP_le l n
    rw [runP_succ, stepP]
    split
    · rename_i hc
      refine ⟨fun x hx => ?_, fun _ => ?_, fun _ => by omega⟩
      · rcases List.mem_append.1 hx with hx | hx
        · exact h1 x hx
        · rw [List.mem_singleton] at hx; subst hx; exact h2 hc.1
      · rw [cut_one (by omega)]; exact ⟨by simp, .inr rfl⟩
    · rename_i hc
      refine ⟨h1, fun h => ⟨?_, ?_⟩, fun _ => by omega⟩
      · rw [Ne, ← List.length_eq_zero_iff, List.length_drop, List.length_take]; omega
      · rcases Nat.lt_or_ge (runP l n).2 n with h4 | h4
        · exact .inl (by
            rcases Nat.lt_or_ge 700 (sizeF ((l.take (n + 1)).drop (runP l n).2)) with h5 | h5
            · exact absurd ⟨h4, h5⟩ hc
            · exact h5)
        · right; rw [List.length_drop, List.length_take]; omega
theorem leaves_packed {l : List Stk} (h : l ≠ []) : ∀ x ∈ leavesF l, Packed x := by
  have hl := List.length_pos_iff.2 h
  obtain ⟨h1, h2, h3⟩ := runP_packed l l.length (Nat.le_refl _)
  intro x hx
  rcases List.mem_append.1 hx with hx | hx
  · exact h1 x hx
  · rw [List.mem_singleton] at hx; subst hx
    have := h2 (h3 hl)
    rwa [List.take_length] at this
theorem size_one (s : Stk) : sizeF [s] ≤ 700 := by
  have h1 := one_len s
  have h2 := putSmall_len (([s] : List Stk).length : Nat)
  rw [sizeF, layF, List.length_append]
  simp only [List.flatMap_cons, List.flatMap_nil, List.append_nil]; omega
theorem packed_size {x : List Stk} (h : Packed x) : sizeF x ≤ 1016 := by
  rcases h.2 with h | h
  · omega
  · match x, h with
    | [s], _ => have := size_one s; omega
theorem firstS_zero : ∀ {l : List Stk}, firstS l = 0 ↔ ∀ s ∈ l, check s = 0
  | [] => by simp [firstS]
  | s :: r => by
    rw [firstS, List.forall_mem_cons]
    split
    · rename_i h; rw [firstS_zero]; exact ⟨fun h2 => ⟨h, h2⟩, fun h2 => h2.2⟩
    · rename_i h; exact ⟨fun h2 => absurd h2 h, fun h2 => absurd h2.1 h⟩
theorem up_lt {l : List Stk} (h : Up l l.length) : ∀ (d i : Nat), i + d + 1 < l.length → (l.getD i stk0).1 < (l.getD (i + d + 1) stk0).1
  | 0, i, hi => by have := h (i + 1) (by omega) (by omega); rwa [Nat.add_sub_cancel] at this
  | d + 1, i, hi => by
    have h1 := up_lt h d i (by omega)
    have h2 := h (i + (d + 1) + 1) (by omega) (by omega)
    rw [Nat.add_sub_cancel] at h2
    exact slt_trans h1 h2
theorem up_pair {l : List Stk} : Up l l.length ↔ l.Pairwise (fun a b => a.1 < b.1) := by
  rw [List.pairwise_iff_getElem]
  have eg : ∀ i (hi : i < l.length), l.getD i stk0 = l[i] := fun i hi => by simp [List.getD, hi]
  constructor
  · intro h i j hi hj hij
    have := up_lt h (j - i - 1) i (by omega)
    rw [show i + (j - i - 1) + 1 = j by omega, eg i hi, eg j hj] at this
    exact this
  · intro h j hj hj1
    rw [eg _ (by omega), eg j hj]
    exact h (j - 1) j (by omega) hj (by omega)
theorem mayL_zero {l : List Stk} : mayL l = 0 ↔ (∀ s ∈ l, check s = 0) ∧ l.any emptyS = false ∧ l.Pairwise (fun a b => a.1 < b.1) := by
  rw [← firstS_zero, ← up_pair, mayL]
  split
  · rename_i h
    split
    · rename_i h2; simp [h, h2]
    · rename_i h2
      split <;> simp_all
  · rename_i h; simp [h]
theorem mayL_sub {l m : List Stk} (h : mayL l = 0) (hs : m.Sublist l) : mayL m = 0 := by
  rw [mayL_zero] at h ⊢
  refine ⟨fun s hm => h.1 s (hs.subset hm), ?_, h.2.2.sublist hs⟩
  have h2 := h.2.1
  rw [List.any_eq_false] at h2 ⊢
  exact fun s hm => h2 s (hs.subset hm)
theorem leaf_may {l x : List Stk} (h : mayL l = 0) (hx : x ∈ leavesF l) : mayL x = 0 := by
  refine mayL_sub h ?_
  conv => rhs; rw [← leaves_flat l]
  exact List.sublist_flatten_of_mem hx
end Go.Proofs.Ytlfehkoklgmjjaa
