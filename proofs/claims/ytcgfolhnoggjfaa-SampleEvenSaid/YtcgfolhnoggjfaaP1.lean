import Derived.Test.YtcgfolhnoggjfaaEng4
import Derived.Test.YtcgfolhnoggjfaaEng5
/- Lists of strings that rise; what slices.Sort and slices.Compact make. -/
set_option linter.unusedVariables false
set_option linter.unusedSimpArgs false
set_option maxRecDepth 8000
set_option maxHeartbeats 4000000
namespace Go.Proofs.Ytcgfolhnoggjfaa
open Go.Eng
/-- Equal neighbours once. -/
def cstep {α : Type} [DecidableEq α] (acc : List α) (x : α) : List α := if acc.getLast? = some x then acc else acc ++ [x]
def compL {α : Type} [DecidableEq α] (l : List α) : List α := l.foldl cstep []
section
variable {α : Type} [DecidableEq α]
theorem compL_snoc (l : List α) (x : α) : compL (l ++ [x]) = cstep (compL l) x := by rw [compL, List.foldl_append]; rfl
theorem compL_rev : ∀ (n : Nat) (l : List α), l.length = n → (compL l).getLast? = l.getLast? ∧ (compL l).length ≤ l.length
  | 0, l, h => by rw [List.eq_nil_of_length_eq_zero h]; exact ⟨rfl, Nat.le_refl _⟩
  | n + 1, l, h => by
    have hne : l ≠ [] := by rintro rfl; simp at h
    rw [← List.dropLast_concat_getLast hne]
    have h3 : l.dropLast.length = l.length - 1 := List.length_dropLast
    have ih := compL_rev n l.dropLast (by omega)
    rw [compL_snoc, cstep]
    split
    · rename_i hs
      rw [hs, List.length_append]; exact ⟨by simp, by have := ih.2; simp; omega⟩
    · rw [List.length_append, List.length_append]; exact ⟨by simp, by have := ih.2; simp; omega⟩
theorem compL_last (l : List α) : (compL l).getLast? = l.getLast? := (compL_rev _ l rfl).1
theorem compL_len (l : List α) : (compL l).length ≤ l.length := (compL_rev _ l rfl).2
theorem compL_short {l : List α} (h : l.length < 2) : compL l = l := by
  match l, h with
  | [], _ => rfl
  | [x], _ => rfl
theorem compL_step (d : α) {xs : List α} {n : Nat} (h1 : 1 ≤ n) (h : n < xs.length) : compL (xs.take (n + 1)) = if xs.getD (n - 1) d = xs.getD n d then compL (xs.take n) else compL (xs.take n) ++ [xs.getD n d] := by
  rw [take_at d h, compL_snoc, cstep, compL_last]
  have e : (xs.take n).getLast? = some (xs.getD (n - 1) d) := by
    rw [List.getLast?_eq_getElem?, List.length_take, Nat.min_eq_left (by omega), List.getElem?_take, if_pos (by omega), List.getElem?_eq_getElem (by omega)]
    simp [List.getD, show n - 1 < xs.length by omega]
  rw [e]
  simp only [Option.some.injEq]
theorem compL_eq (d : α) {xs : List α} {n : Nat} (h1 : 1 ≤ n) (h : n < xs.length) (he : xs.getD n d = xs.getD (n - 1) d) : compL (xs.take (n + 1)) = compL (xs.take n) := by
  rw [compL_step d h1 h, if_pos he.symm]
theorem compL_ne (d : α) {xs : List α} {n : Nat} (h1 : 1 ≤ n) (h : n < xs.length) (he : ¬ xs.getD n d = xs.getD (n - 1) d) : compL (xs.take (n + 1)) = compL (xs.take n) ++ [xs.getD n d] := by
  rw [compL_step d h1 h, if_neg (fun hc => he hc.symm)]
end
/-- What slices.Compact has done, 'i' rows kept out of 'j'. -/
structure CF {α : Type} [DecidableEq α] (xs : List α) (k : Nat) (zs : List (Option α)) (i j : Nat) : Prop where
  len : zs.length = xs.length + k
  cnt : i = (compL (xs.take j)).length
  lt : i < j
  le : j ≤ xs.length
  front : zs.take i = (compL (xs.take j)).map some
  rest : zs.drop (j - 1) = (xs.map some ++ List.replicate k none).drop (j - 1)
section
variable {α : Type} [DecidableEq α] {xs : List α} {k : Nat} {zs : List (Option α)} {i j : Nat}
theorem CF.get (q : CF xs k zs i j) (d : α) {m : Nat} (h : j - 1 ≤ m) (h2 : m < xs.length) : zs.getD m none = some (xs.getD m d) := by
  rw [← raw_getD (k := k) d h2, List.getD_eq_getElem?_getD, List.getD_eq_getElem?_getD]
  have := congrArg (·[m - (j - 1)]?) q.rest
  simp only [List.getElem?_drop, show j - 1 + (m - (j - 1)) = m by omega] at this
  rw [this]
theorem CF.first (d : α) {n : Nat} (h1 : 1 ≤ n) (h : n < xs.length) (hc : compL (xs.take n) = xs.take n) (he : xs.getD n d = xs.getD (n - 1) d) : CF xs k (xs.map some ++ List.replicate k none) n (n + 1) := by
  have e : compL (xs.take (n + 1)) = xs.take n := by rw [compL_eq d h1 h he, hc]
  exact ⟨by simp, by rw [e, List.length_take]; omega, by omega, by omega, by rw [e, raw_take (by omega)], rfl⟩
theorem CF.same (q : CF xs k zs i j) (d : α) (h : j < xs.length) (he : xs.getD j d = xs.getD (j - 1) d) : CF xs k zs i (j + 1) := by
  have hlt := q.lt
  have e : compL (xs.take (j + 1)) = compL (xs.take j) := compL_eq d (by omega) h he
  refine ⟨q.len, by rw [e]; exact q.cnt, by omega, by omega, by rw [e]; exact q.front, ?_⟩
  have := congrArg (List.drop 1) q.rest
  simp only [List.drop_drop] at this
  rw [show j - 1 + 1 = j by omega] at this
  rw [Nat.add_sub_cancel]; exact this
theorem CF.new (q : CF xs k zs i j) (d : α) (h : j < xs.length) (he : ¬ xs.getD j d = xs.getD (j - 1) d) : CF xs k (zs.set i (some (xs.getD j d))) (i + 1) (j + 1) := by
  have hlt := q.lt
  have e : compL (xs.take (j + 1)) = compL (xs.take j) ++ [xs.getD j d] := compL_ne d (by omega) h he
  have hl := q.len
  refine ⟨by rw [List.length_set]; exact hl, by rw [e, List.length_append, ← q.cnt]; rfl, by omega, by omega, ?_, ?_⟩
  · rw [e, List.map_append, ← q.front, take_at none (by rw [List.length_set]; omega), List.take_set_of_le (Nat.le_refl _)]
    congr 1
    rw [List.getD_eq_getElem?_getD, List.getElem?_set_self (by omega)]; rfl
  · have := congrArg (List.drop 1) q.rest
    simp only [List.drop_drop] at this
    rw [show j - 1 + 1 = j by omega] at this
    rw [Nat.add_sub_cancel, List.drop_set_of_lt (by omega)]; exact this
theorem CF.fin (q : CF xs k zs i xs.length) : zs.take i = (compL xs).map some := by
  have := q.front
  rwa [take_all (Nat.le_refl _)] at this
end

theorem sle_iff {x y : List UInt8} : x ≤ y ↔ ¬ y < x := List.not_lt.symm
theorem sle_cases {x y : List UInt8} (h : x ≤ y) : x < y ∨ x = y := by
  by_cases hx : x < y
  · exact .inl hx
  · exact .inr (slt_total hx (List.not_lt.2 h))
theorem rise_ext : ∀ {a b : List (List UInt8)}, a.Pairwise (· < ·) → b.Pairwise (· < ·) → (∀ x, x ∈ a ↔ x ∈ b) → a = b
  | [], [], _, _, _ => rfl
  | [], y :: b, _, _, h => absurd ((h y).2 List.mem_cons_self) (by simp)
  | x :: a, [], _, _, h => absurd ((h x).1 List.mem_cons_self) (by simp)
  | x :: a, y :: b, ha, hb, h => by
    rw [List.pairwise_cons] at ha hb
    have hxy : x = y := by
      rcases List.mem_cons.1 ((h x).1 List.mem_cons_self) with h1 | h1
      · exact h1
      · rcases List.mem_cons.1 ((h y).2 List.mem_cons_self) with h2 | h2
        · exact h2.symm
        · exact absurd (hb.1 x h1) (slt_asymm (ha.1 y h2))
    subst hxy
    congr 1
    refine rise_ext ha.2 hb.2 fun z => ⟨fun hz => ?_, fun hz => ?_⟩
    · rcases List.mem_cons.1 ((h z).1 (List.mem_cons_of_mem _ hz)) with h1 | h1
      · subst h1; exact absurd (ha.1 z hz) (slt_irrefl z)
      · exact h1
    · rcases List.mem_cons.1 ((h z).2 (List.mem_cons_of_mem _ hz)) with h1 | h1
      · subst h1; exact absurd (hb.1 z hz) (slt_irrefl z)
      · exact h1
theorem sortStr_pw (l : List (List UInt8)) : (sortStr l).Pairwise (· ≤ ·) := by
  have := List.pairwise_mergeSort (le := fun x y : List UInt8 => decide (x ≤ y)) (fun a b c h1 h2 => by
    simp only [decide_eq_true_eq] at *; exact List.le_trans h1 h2) (fun a b => by
    simp only [Bool.or_eq_true, decide_eq_true_eq]; exact List.le_total a b) l
  exact this.imp fun h => by simpa using h
theorem sortStr_mem {l : List (List UInt8)} {x : List UInt8} : x ∈ sortStr l ↔ x ∈ l := (List.mergeSort_perm _ _).mem_iff
theorem sortStr_len (l : List (List UInt8)) : (sortStr l).length = l.length := (List.mergeSort_perm _ _).length_eq
theorem compL_mem' {α : Type} [DecidableEq α] : ∀ (n : Nat) (l : List α), l.length = n → ∀ x, x ∈ compL l ↔ x ∈ l
  | 0, l, h, x => by rw [List.eq_nil_of_length_eq_zero h]; exact Iff.rfl
  | n + 1, l, h, x => by
    have hne : l ≠ [] := by rintro rfl; simp at h
    rw [← List.dropLast_concat_getLast hne]
    have h3 : l.dropLast.length = l.length - 1 := List.length_dropLast
    have ih := compL_mem' n l.dropLast (by omega) x
    rw [compL_snoc, cstep]
    split
    · rename_i hs
      rw [ih, List.mem_append, List.mem_singleton]
      refine ⟨.inl, fun hx => hx.elim id fun hx => ?_⟩
      rw [compL_last] at hs
      rw [hx]; exact List.mem_of_getLast? hs
    · rw [List.mem_append, List.mem_append, ih]
theorem compL_mem {α : Type} [DecidableEq α] {l : List α} {x : α} : x ∈ compL l ↔ x ∈ l := compL_mem' _ l rfl x
theorem compL_rise' : ∀ (n : Nat) (l : List (List UInt8)), l.length = n → l.Pairwise (· ≤ ·) → (compL l).Pairwise (· < ·)
  | 0, l, h, _ => by rw [List.eq_nil_of_length_eq_zero h]; exact List.Pairwise.nil
  | n + 1, l, h, hp => by
    have hne : l ≠ [] := by rintro rfl; simp at h
    rw [← List.dropLast_concat_getLast hne] at hp ⊢
    have h3 : l.dropLast.length = l.length - 1 := List.length_dropLast
    rw [List.pairwise_append] at hp
    have ih := compL_rise' n l.dropLast (by omega) hp.1
    rw [compL_snoc, cstep]
    split
    · exact ih
    · rename_i hs
      rw [List.pairwise_append]
      refine ⟨ih, by simp, fun a ha b hb => ?_⟩
      rw [List.mem_singleton] at hb
      subst hb
      have h4 := hp.2.2 a (compL_mem.1 ha) _ (List.mem_singleton.2 rfl)
      rcases sle_cases h4 with h5 | h5
      · exact h5
      · exfalso
        -- a is the greatest: it is the last
        apply hs
        have hne2 : compL l.dropLast ≠ [] := List.ne_nil_of_mem ha
        rw [List.getLast?_eq_some_getLast hne2]
        congr 1
        have h6 : (compL l.dropLast).getLast hne2 ∈ l.dropLast := compL_mem.1 (List.getLast_mem hne2)
        have h7 := hp.2.2 _ h6 _ (List.mem_singleton.2 rfl)
        rcases sle_cases h7 with h8 | h8
        · exfalso
          rw [← List.dropLast_concat_getLast hne2] at ih ha
          rw [List.pairwise_append] at ih
          rcases List.mem_append.1 ha with h9 | h9
          · have := ih.2.2 a h9 _ (List.mem_singleton.2 rfl)
            rw [h5] at this
            exact slt_asymm this h8
          · rw [List.mem_singleton] at h9
            rw [← h9, h5] at h8; exact slt_irrefl _ h8
        · exact h8
theorem compL_rise {l : List (List UInt8)} (h : l.Pairwise (· ≤ ·)) : (compL l).Pairwise (· < ·) := compL_rise' _ l rfl h
/-- Keys sorted, each once. -/
def sortU (l : List (List UInt8)) : List (List UInt8) := compL (sortStr l)
theorem sortU_rise (l : List (List UInt8)) : (sortU l).Pairwise (· < ·) := compL_rise (sortStr_pw l)
theorem sortU_mem {l : List (List UInt8)} {x : List UInt8} : x ∈ sortU l ↔ x ∈ l := by rw [sortU, compL_mem, sortStr_mem]
theorem sortU_len (l : List (List UInt8)) : (sortU l).length ≤ l.length := by
  have := compL_len (sortStr l)
  rw [sortStr_len] at this
  exact this
/-- The first place that is not below. -/
def posK (k : List UInt8) : List (List UInt8) → Nat
  | [] => 0
  | x :: r => if sless x k = true then posK k r + 1 else 0
theorem posK_le (k : List UInt8) : ∀ (l : List (List UInt8)), posK k l ≤ l.length
  | [] => Nat.le_refl _
  | x :: r => by
    have := posK_le k r
    rw [posK]; split
    · rw [List.length_cons]; omega
    · exact Nat.zero_le _
def addK (l : List (List UInt8)) (k : List UInt8) : List (List UInt8) := if posK k l < l.length ∧ l.getD (posK k l) [] = k then l else l.take (posK k l) ++ [k] ++ l.drop (posK k l)
theorem addK_cons (x : List UInt8) (r : List (List UInt8)) (k : List UInt8) : addK (x :: r) k = if sless x k = true then x :: addK r k else if x = k then x :: r else k :: x :: r := by
  unfold addK
  rw [posK]
  split
  · simp only [List.length_cons, List.getD_cons_succ, List.take_succ_cons, List.drop_succ_cons, Nat.add_lt_add_iff_right]
    split <;> simp
  · simp only [List.length_cons, Nat.zero_lt_succ, List.getD_cons_zero, true_and, List.take_zero, List.drop_zero, List.nil_append]
    rfl
theorem addK_mem (k x : List UInt8) : ∀ (l : List (List UInt8)), x ∈ addK l k ↔ x ∈ l ∨ x = k
  | [] => by simp [addK, posK]
  | y :: r => by
    have ih := addK_mem k x r
    rw [addK_cons]
    split
    · rw [List.mem_cons, ih, List.mem_cons, or_assoc]
    · split
      · rename_i h; subst h
        rw [List.mem_cons]
        exact ⟨.inl, fun h => h.elim id .inl⟩
      · rw [List.mem_cons]; exact or_comm
theorem addK_rise (k : List UInt8) : ∀ (l : List (List UInt8)), l.Pairwise (· < ·) → (addK l k).Pairwise (· < ·)
  | [], _ => by simp [addK, posK]
  | y :: r, h => by
    have h' := List.pairwise_cons.1 h
    have ih := addK_rise k r h'.2
    rw [addK_cons]
    split
    · rename_i hs
      rw [List.pairwise_cons]
      refine ⟨fun z hz => ?_, ih⟩
      rcases (addK_mem k z r).1 hz with h1 | h1
      · exact h'.1 z h1
      · rw [h1]; exact sless_iff.1 hs
    · split
      · exact h
      · rename_i hs hne
        have hky : k < y := by
          rcases sle_cases (List.not_lt.1 (fun hc => hs (sless_iff.2 hc))) with h1 | h1
          · exact h1
          · exact absurd h1.symm hne
        rw [List.pairwise_cons]
        refine ⟨fun z hz => ?_, h⟩
        rcases List.mem_cons.1 hz with h1 | h1
        · rw [h1]; exact hky
        · exact slt_trans hky (h'.1 z h1)
theorem foldK (l : List (List UInt8)) : ∀ (acc : List (List UInt8)), acc.Pairwise (· < ·) → (l.foldl addK acc).Pairwise (· < ·) ∧ ∀ x, x ∈ l.foldl addK acc ↔ x ∈ acc ∨ x ∈ l := by
  induction l with
  | nil => intro acc h; exact ⟨h, by simp⟩
  | cons k l ih =>
    intro acc h
    obtain ⟨h1, h2⟩ := ih (addK acc k) (addK_rise k acc h)
    refine ⟨h1, fun x => ?_⟩
    rw [List.foldl_cons, h2, addK_mem, List.mem_cons, or_assoc]
theorem sortU_fold (l : List (List UInt8)) : l.foldl addK [] = sortU l := by
  obtain ⟨h1, h2⟩ := foldK l [] List.Pairwise.nil
  refine rise_ext h1 (sortU_rise l) fun x => ?_
  rw [h2, sortU_mem]; simp
theorem addK_len (l : List (List UInt8)) (k : List UInt8) : (addK l k).length ≤ l.length + 1 := by
  have := posK_le k l
  unfold addK
  split
  · omega
  · simp only [List.length_append, List.length_take, List.length_drop, List.length_singleton]; omega
end Go.Proofs.Ytcgfolhnoggjfaa
