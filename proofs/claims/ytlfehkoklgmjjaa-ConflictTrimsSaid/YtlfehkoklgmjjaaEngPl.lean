import Derived.Test.YtlfehkoklgmjjaaEngOp
/- Plain laws of lists, that the walks of many functions need. -/
set_option linter.unusedVariables false
set_option linter.unusedSimpArgs false
namespace Go.Eng
/-- The place of the first one, behind 'i'; -1 if there is none. -/
def idxF {α : Type} (p : α → Bool) : List α → Nat → Int
  | [], _ => -1
  | x :: r, i => if p x then (i : Int) else idxF p r (i + 1)
theorem idxF_pos {α : Type} (p : α → Bool) : ∀ (l : List α) (i : Nat), idxF p l i = -1 ∨ (i ≤ idxF p l i ∧ idxF p l i < i + l.length)
  | [], i => .inl rfl
  | x :: r, i => by
    unfold idxF
    have := idxF_pos p r (i + 1)
    simp only [List.length_cons]
    split
    · right; omega
    · omega
theorem idxF_iff {α : Type} {p : α → Bool} : ∀ (l : List α) (i : Nat), 0 ≤ idxF p l i ↔ l.any p = true
  | [], i => by simp [idxF]
  | x :: r, i => by
    unfold idxF
    by_cases h : p x = true
    · rw [if_pos h]; simp [h]
    · have h' : p x = false := by simpa using h
      rw [if_neg h, List.any_cons, h', idxF_iff r (i + 1)]; simp
theorem idxF_any {α : Type} {p : α → Bool} (l : List α) (i : Nat) : decide (idxF p l i ≥ 0) = l.any p := by
  by_cases h : l.any p = true
  · rw [h]; exact decide_eq_true ((idxF_iff l i).2 h)
  · have h' : l.any p = false := by simpa using h
    rw [h']; exact decide_eq_false (fun hc => h ((idxF_iff l i).1 hc))
theorem idxF_find {α : Type} (d : α) (p : α → Bool) : ∀ (xs : List α) (i : Nat), (idxF p xs i = -1 ∧ xs.find? p = none) ∨ ∃ j : Nat, idxF p xs i = i + j ∧ j < xs.length ∧ xs.find? p = some (xs.getD j d)
  | [], i => .inl ⟨rfl, rfl⟩
  | x :: r, i => by
    cases hp : p x
    · rw [idxF, if_neg (by rw [hp]; simp), List.find?_cons, hp]
      rcases idxF_find d p r (i + 1) with ⟨h1, h2⟩ | ⟨j, h1, h2, h3⟩
      · exact .inl ⟨h1, h2⟩
      · exact .inr ⟨j + 1, by rw [h1]; omega, by simp; omega, by rw [h3]; rfl⟩
    · rw [idxF, if_pos hp, List.find?_cons, hp]
      exact .inr ⟨0, by simp, by simp, rfl⟩
theorem idxF_at {α : Type} {p : α → Bool} {xs : List α} {i : Nat} (d : α) (h : i < xs.length) : idxF p (xs.drop i) i = if p (xs.getD i d) = true then (i : Int) else idxF p (xs.drop (i + 1)) (i + 1) := by
  rw [drop_at d h, idxF]
theorem getD_mem {α : Type} {xs : List α} {i : Nat} (d : α) (h : i < xs.length) : xs.getD i d ∈ xs := by
  rw [List.getD_eq_getElem?_getD, List.getElem?_eq_getElem h]
  exact List.getElem_mem h
theorem raw_getD {α : Type} {xs : List α} {k i : Nat} (d : α) (h : i < xs.length) : (xs.map some ++ List.replicate k none).getD i none = some (xs.getD i d) := by
  rw [raw_get h, List.getD_eq_getElem?_getD, List.getElem?_eq_getElem h]; rfl
theorem decide_mem_cons {α : Type} {x a : α} {r : List α} [Decidable (x ∈ a :: r)] [Decidable (x = a)] [Decidable (x ∈ r)] : decide (x ∈ a :: r) = (decide (x = a) || decide (x ∈ r)) := by
  by_cases h : x = a <;> simp [h]
/-- What slices.DeleteFunc has done, 'i' rows kept out of 'j'. -/
structure DF {α : Type} (p : α → Bool) (xs : List α) (k : Nat) (zs : List (Option α)) (i j : Nat) : Prop where
  len : zs.length = xs.length + k
  cnt : i = ((xs.take j).filter (fun x => !p x)).length
  lt : i < j
  le : j ≤ xs.length
  front : zs.take i = ((xs.take j).filter (fun x => !p x)).map some
  rest : zs.drop j = (xs.map some ++ List.replicate k none).drop j
section
variable {α : Type} {p : α → Bool} {xs : List α} {k : Nat} {zs : List (Option α)} {i j : Nat}
theorem DF.init (d : α) (h : i < xs.length) (hb : ∀ m, m < i → p (xs.getD m d) = false) (hp : p (xs.getD i d) = true) : DF p xs k (xs.map some ++ List.replicate k none) i (i + 1) := by
  have hf : ∀ m, m ≤ i → (xs.take m).filter (fun x => !p x) = xs.take m := by
    intro m
    induction m with
    | zero => intro _; rfl
    | succ m ih =>
      intro hm
      rw [take_at d (by omega), List.filter_append, ih (by omega), List.filter_cons, hb m (by omega)]; rfl
  have hf1 : (xs.take (i + 1)).filter (fun x => !p x) = xs.take i := by
    rw [take_at d h, List.filter_append, hf i (Nat.le_refl _), List.filter_cons, hp]; simp
  exact ⟨by simp, by rw [hf1, List.length_take]; omega, by omega, by omega, by rw [hf1, raw_take (by omega)], rfl⟩
theorem DF.get (d : α) (D : DF p xs k zs i j) (h : j < xs.length) : zs.getD j none = some (xs.getD j d) := by
  have := congrArg (fun l => l[0]?) D.rest
  simp only [List.getElem?_drop, Nat.add_zero] at this
  rw [List.getD_eq_getElem?_getD, this, ← List.getD_eq_getElem?_getD, raw_getD d h]
theorem DF.next (d : α) (D : DF p xs k zs i j) (h : j < xs.length) (hp : p (xs.getD j d) = true) : DF p xs k zs i (j + 1) := by
  have hf : (xs.take (j + 1)).filter (fun x => !p x) = (xs.take j).filter (fun x => !p x) := by
    rw [take_at d h, List.filter_append, List.filter_cons, hp]; simp
  exact ⟨D.len, by rw [hf]; exact D.cnt, by have := D.lt; omega, by omega, by rw [hf]; exact D.front, by
    have := congrArg (List.drop 1) D.rest
    rwa [List.drop_drop, List.drop_drop] at this⟩
theorem DF.keep (d : α) (D : DF p xs k zs i j) (h : j < xs.length) (hp : p (xs.getD j d) = false) : DF p xs k (zs.set i (some (xs.getD j d))) (i + 1) (j + 1) := by
  have hf : (xs.take (j + 1)).filter (fun x => !p x) = (xs.take j).filter (fun x => !p x) ++ [xs.getD j d] := by
    rw [take_at d h, List.filter_append, List.filter_cons, hp]; rfl
  have h1 := D.lt
  have h2 := D.len
  exact ⟨by rw [List.length_set]; exact D.len, by rw [hf, List.length_append, ← D.cnt]; rfl, by omega, by omega, by
    rw [hf, List.map_append, ← D.front, List.take_set, List.take_add_one, List.set_append_right _ _ (by rw [List.length_take]; omega)]
    congr 1
    rw [List.getElem?_eq_getElem (by omega), List.length_take, Nat.min_eq_left (by omega), Nat.sub_self]; rfl, by
    rw [List.drop_set_of_lt (by omega)]
    have := congrArg (List.drop 1) D.rest
    rwa [List.drop_drop, List.drop_drop] at this⟩
theorem DF.end (D : DF p xs k zs i j) (h : xs.length ≤ j) {r : List (Option α)} : (zs.take i ++ r).take i = (xs.filter (fun x => !p x)).map some := by
  rw [List.take_append_of_le_length (by rw [List.length_take]; have := D.len; have := D.lt; have := D.le; omega), List.take_take, Nat.min_self, D.front, List.take_of_length_le h]
end
end Go.Eng
