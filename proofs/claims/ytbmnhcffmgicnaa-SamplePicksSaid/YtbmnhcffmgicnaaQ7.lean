import Derived.Test.YtbmnhcffmgicnaaEng4
import Derived.Test.YtbmnhcffmgicnaaEng5
import Derived.Shelf.Sort.Plain
import Derived.Test.YtbmnhcffmgicnaaProg
import Derived.Test.YtbmnhcffmgicnaaTab
/- Texts, one behind the other. -/
set_option linter.unusedVariables false
set_option linter.unusedSimpArgs false
set_option maxRecDepth 8000
set_option maxHeartbeats 4000000
namespace Go.Proofs.Ytbmnhcffmgicnaa
open Go.Eng
def cstep {α : Type} [DecidableEq α] (acc : List α) (x : α) : List α := if acc.getLast? = some x then acc else acc ++ [x]
def compL {α : Type} [DecidableEq α] (l : List α) : List α := l.foldl cstep []
section
variable {α : Type} [DecidableEq α]
theorem compL_snoc (l : List α) (x : α) : compL (l ++ [x]) = cstep (compL l) x := by rw [compL, List.foldl_append]; rfl
theorem compL_rev : ∀ (n : Nat) (l : List α), l.length = n → (compL l).getLast? = l.getLast? ∧ (compL l).length ≤ l.length
  | 0, l, h => by rw [List.eq_nil_of_length_eq_zero h]; exact ⟨rfl, Nat.le_refl _⟩
  | n + 1, l, h => by
    have hne : l ≠ [] := by rintro rfl; simp at h
    rw [← List.dropLast_concat_getLast hne]
    have h3 : l.dropLast.length = l.length - 1 := List.length_dropLast
    have ih := compL_rev n l.dropLast (by omega)
    rw [compL_snoc, cstep]
    split
    · rename_i hs
      rw [hs, List.length_append]; exact ⟨by simp, by have := ih.2; simp; omega⟩
    · rw [List.length_append, List.length_append]; exact ⟨by simp, by have := ih.2; simp; omega⟩
theorem compL_last (l : List α) : (compL l).getLast? = l.getLast? := (compL_rev _ l rfl).1
theorem compL_len (l : List α) : (compL l).length ≤ l.length := (compL_rev _ l rfl).2
theorem compL_short {l : List α} (h : l.length < 2) : compL l = l := by
  match l, h with
  | [], _ => rfl
  | [x], _ => rfl
theorem compL_step (d : α) {xs : List α} {n : Nat} (h1 : 1 ≤ n) (h : n < xs.length) : compL (xs.take (n + 1)) = if xs.getD (n - 1) d = xs.getD n d then compL (xs.take n) else compL (xs.take n) ++ [xs.getD n d] := by
  rw [take_at d h, compL_snoc, cstep, compL_last]
  have e : (xs.take n).getLast? = some (xs.getD (n - 1) d) := by
    rw [List.getLast?_eq_getElem?, List.length_take, Nat.min_eq_left (by omega), List.getElem?_take, if_pos (by omega), List.getElem?_eq_getElem (by omega)]
    simp [List.getD, show n - 1 < xs.length by omega]
  rw [e]
  simp only [Option.some.injEq]
theorem compL_eq (d : α) {xs : List α} {n : Nat} (h1 : 1 ≤ n) (h : n < xs.length) (he : xs.getD n d = xs.getD (n - 1) d) : compL (xs.take (n + 1)) = compL (xs.take n) := by
  rw [compL_step d h1 h, if_pos he.symm]
theorem compL_ne (d : α) {xs : List α} {n : Nat} (h1 : 1 ≤ n) (h : n < xs.length) (he : ¬ xs.getD n d = xs.getD (n - 1) d) : compL (xs.take (n + 1)) = compL (xs.take n) ++ [xs.getD n d] := by
  rw [compL_step d h1 h, if_neg (fun hc => he hc.symm)]
end
structure CF {α : Type} [DecidableEq α] (xs : List α) (k : Nat) (zs : List (Option α)) (i j : Nat) : Prop where
  len : zs.length = xs.length + k
  cnt : i = (compL (xs.take j)).length
  lt : i < j
  le : j ≤ xs.length
  front : zs.take i = (compL (xs.take j)).map some
  rest : zs.drop (j - 1) = (xs.map some ++ List.replicate k none).drop (j - 1)
section
variable {α : Type} [DecidableEq α] {xs : List α} {k : Nat} {zs : List (Option α)} {i j : Nat}
theorem CF.get (q : CF xs k zs i j) (d : α) {m : Nat} (h : j - 1 ≤ m) (h2 : m < xs.length) : zs.getD m none = some (xs.getD m d) := by
  rw [← raw_getD (k := k) d h2, List.getD_eq_getElem?_getD, List.getD_eq_getElem?_getD]
  have := congrArg (·[m - (j - 1)]?) q.rest
  simp only [List.getElem?_drop, show j - 1 + (m - (j - 1)) = m by omega] at this
  rw [this]
theorem CF.first (d : α) {n : Nat} (h1 : 1 ≤ n) (h : n < xs.length) (hc : compL (xs.take n) = xs.take n) (he : xs.getD n d = xs.getD (n - 1) d) : CF xs k (xs.map some ++ List.replicate k none) n (n + 1) := by
  have e : compL (xs.take (n + 1)) = xs.take n := by rw [compL_eq d h1 h he, hc]
  exact ⟨by simp, by rw [e, List.length_take]; omega, by omega, by omega, by rw [e, raw_take (by omega)], rfl⟩
theorem CF.same (q : CF xs k zs i j) (d : α) (h : j < xs.length) (he : xs.getD j d = xs.getD (j - 1) d) : CF xs k zs i (j + 1) := by
  have hlt := q.lt
  have e : compL (xs.take (j + 1)) = compL (xs.take j) := compL_eq d (by omega) h he
  refine ⟨q.len, by rw [e]; exact q.cnt, by omega, by omega, by rw [e]; exact q.front, ?_⟩
  have := congrArg (List.drop 1) q.rest
  simp only [List.drop_drop] at this
  rw [show j - 1 + 1 = j by omega] at this
  rw [Nat.add_sub_cancel]; exact this
theorem CF.new (q : CF xs k zs i j) (d : α) (h : j < xs.length) (he : ¬ xs.getD j d = xs.getD (j - 1) d) : CF xs k (zs.set i (some (xs.getD j d))) (i + 1) (j + 1) := by
  have hlt := q.lt
  have e : compL (xs.take (j + 1)) = compL (xs.take j) ++ [xs.getD j d] := compL_ne d (by omega) h he
  have hl := q.len
  refine ⟨by rw [List.length_set]; exact hl, by rw [e, List.length_append, ← q.cnt]; rfl, by omega, by omega, ?_, ?_⟩
  · rw [e, List.map_append, ← q.front, take_at none (by rw [List.length_set]; omega), List.take_set_of_le (Nat.le_refl _)]
    congr 1
    rw [List.getD_eq_getElem?_getD, List.getElem?_set_self (by omega)]; rfl
  · have := congrArg (List.drop 1) q.rest
    simp only [List.drop_drop] at this
    rw [show j - 1 + 1 = j by omega] at this
    rw [Nat.add_sub_cancel, List.drop_set_of_lt (by omega)]; exact this
theorem CF.fin (q : CF xs k zs i xs.length) : zs.take i = (compL xs).map some := by
  have := q.front
  rwa [take_all (Nat.le_refl _)] at this
end
theorem sle_cases {x y : List UInt8} (h : x ≤ y) : x < y ∨ x = y := by
  by_cases hx : x < y
  · exact .inl hx
  · exact .inr (slt_total hx (List.not_lt.2 h))
theorem rise_ext : ∀ {a b : List (List UInt8)}, a.Pairwise (· < ·) → b.Pairwise (· < ·) → (∀ x, x ∈ a ↔ x ∈ b) → a = b
  | [], [], _, _, _ => rfl
  | [], y :: b, _, _, h => absurd ((h y).2 List.mem_cons_self) (by simp)
  | x :: a, [], _, _, h => absurd ((h x).1 List.mem_cons_self) (by simp)
  | x :: a, y :: b, ha, hb, h => by
    rw [List.pairwise_cons] at ha hb
    have hxy : x = y := by
      rcases List.mem_cons.1 ((h x).1 List.mem_cons_self) with h1 | h1
      · exact h1
      · rcases List.mem_cons.1 ((h y).2 List.mem_cons_self) with h2 | h2
        · exact h2.symm
        · exact absurd (hb.1 x h1) (slt_asymm (ha.1 y h2))
    subst hxy
    congr 1
    refine rise_ext ha.2 hb.2 fun z => ⟨fun hz => ?_, fun hz => ?_⟩
    · rcases List.mem_cons.1 ((h z).1 (List.mem_cons_of_mem _ hz)) with h1 | h1
      · subst h1; exact absurd (ha.1 z hz) (slt_irrefl z)
      · exact h1
    · rcases List.mem_cons.1 ((h z).2 (List.mem_cons_of_mem _ hz)) with h1 | h1
      · subst h1; exact absurd (hb.1 z hz) (slt_irrefl z)
      · exact h1
theorem sortStr_pw (l : List (List UInt8)) : (sortStr l).Pairwise (· ≤ ·) := by
  have := List.pairwise_mergeSort (le := fun x y : List UInt8 => decide (x ≤ y)) (fun a b c h1 h2 => by
    simp only [decide_eq_true_eq] at *; exact List.le_trans h1 h2) (fun a b => by
    simp only [Bool.or_eq_true, decide_eq_true_eq]; exact List.le_total a b) l
  exact this.imp fun h => by simpa using h
theorem sortStr_mem {l : List (List UInt8)} {x : List UInt8} : x ∈ sortStr l ↔ x ∈ l := (List.mergeSort_perm _ _).mem_iff
theorem sortStr_len (l : List (List UInt8)) : (sortStr l).length = l.length := (List.mergeSort_perm _ _).length_eq
theorem compL_mem' {α : Type} [DecidableEq α] : ∀ (n : Nat) (l : List α), l.length = n → ∀ x, x ∈ compL l ↔ x ∈ l
  | 0, l, h, x => by rw [List.eq_nil_of_length_eq_zero h]; exact Iff.rfl
  | n + 1, l, h, x => by
    have hne : l ≠ [] := by rintro rfl; simp at h
    rw [← List.dropLast_concat_getLast hne]
    have h3 : l.dropLast.length = l.length - 1 := List.length_dropLast
    have ih := compL_mem' n l.dropLast (by omega) x
    rw [compL_snoc, cstep]
    split
    · rename_i hs
      rw [ih, List.mem_append, List.mem_singleton]
      refine ⟨.inl, fun hx => hx.elim id fun hx => ?_⟩
      rw [compL_last] at hs
      rw [hx]; exact List.mem_of_getLast? hs
    · rw [List.mem_append, List.mem_append, ih]
theorem compL_mem {α : Type} [DecidableEq α] {l : List α} {x : α} : x ∈ compL l ↔ x ∈ l := compL_mem' _ l rfl x
theorem compL_rise' : ∀ (n : Nat) (l : List (List UInt8)), l.length = n → l.Pairwise (· ≤ ·) → (compL l).Pairwise (· < ·)
  | 0, l, h, _ => by rw [List.eq_nil_of_length_eq_zero h]; exact List.Pairwise.nil
  | n + 1, l, h, hp => by
    have hne : l ≠ [] := by rintro rfl; simp at h
    rw [← List.dropLast_concat_getLast hne] at hp ⊢
    have h3 : l.dropLast.length = l.length - 1 := List.length_dropLast
    rw [List.pairwise_append] at hp
    have ih := compL_rise' n l.dropLast (by omega) hp.1
    rw [compL_snoc, cstep]
    split
    · exact ih
    · rename_i hs
      rw [List.pairwise_append]
      refine ⟨ih, by simp, fun a ha b hb => ?_⟩
      rw [List.mem_singleton] at hb
      subst hb
      have h4 := hp.2.2 a (compL_mem.1 ha) _ (List.mem_singleton.2 rfl)
      rcases sle_cases h4 with h5 | h5
      · exact h5
      · exfalso
        -- a is the greatest: it is the last
        apply hs
        have hne2 : compL l.dropLast ≠ [] := List.ne_nil_of_mem ha
        rw [List.getLast?_eq_some_getLast hne2]
        congr 1
        have h6 : (compL l.dropLast).getLast hne2 ∈ l.dropLast := compL_mem.1 (List.getLast_mem hne2)
        have h7 := hp.2.2 _ h6 _ (List.mem_singleton.2 rfl)
        rcases sle_cases h7 with h8 | h8
        · exfalso
          rw [← List.dropLast_concat_getLast hne2] at ih ha
          rw [List.pairwise_append] at ih
          rcases List.mem_append.1 ha with h9 | h9
          · have := ih.2.2 a h9 _ (List.mem_singleton.2 rfl)
            rw [h5] at this
            exact slt_asymm this h8
          · rw [List.mem_singleton] at h9
            rw [← h9, h5] at h8; exact slt_irrefl _ h8
        · exact h8
theorem compL_rise {l : List (List UInt8)} (h : l.Pairwise (· ≤ ·)) : (compL l).Pairwise (· < ·) := compL_rise' _ l rfl h
def sortU (l : List (List UInt8)) : List (List UInt8) := compL (sortStr l)
theorem sortU_rise (l : List (List UInt8)) : (sortU l).Pairwise (· < ·) := compL_rise (sortStr_pw l)
theorem sortU_mem {l : List (List UInt8)} {x : List UInt8} : x ∈ sortU l ↔ x ∈ l := by rw [sortU, compL_mem, sortStr_mem]
theorem sortU_len (l : List (List UInt8)) : (sortU l).length ≤ l.length := by
  have := compL_len (sortStr l)
  rw [sortStr_len] at this
  exact this
def posK (k : List UInt8) : List (List UInt8) → Nat
  | [] => 0
  | x :: r => if sless x k = true then posK k r + 1 else 0
def addK (l : List (List UInt8)) (k : List UInt8) : List (List UInt8) := if posK k l < l.length ∧ l.getD (posK k l) [] = k then l else l.take (posK k l) ++ [k] ++ l.drop (posK k l)
theorem addK_cons (x : List UInt8) (r : List (List UInt8)) (k : List UInt8) : addK (x :: r) k = if sless x k = true then x :: addK r k else if x = k then x :: r else k :: x :: r := by
  unfold addK
  rw [posK]
  split
  · simp only [List.length_cons, List.getD_cons_succ, List.take_succ_cons, List.drop_succ_cons, Nat.add_lt_add_iff_right]
    split <;> simp
  · simp only [List.length_cons, Nat.zero_lt_succ, List.getD_cons_zero, true_and, List.take_zero, List.drop_zero, List.nil_append]
    rfl
theorem addK_mem (k x : List UInt8) : ∀ (l : List (List UInt8)), x ∈ addK l k ↔ x ∈ l ∨ x = k
  | [] => by simp [addK, posK]
  | y :: r => by
    have ih := addK_mem k x r
    rw [addK_cons]
    split
    · rw [List.mem_cons, ih, List.mem_cons, or_assoc]
    · split
      · rename_i h; subst h
        rw [List.mem_cons]
        exact ⟨.inl, fun h => h.elim id .inl⟩
      · rw [List.mem_cons]; exact or_comm
theorem addK_rise (k : List UInt8) : ∀ (l : List (List UInt8)), l.Pairwise (· < ·) → (addK l k).Pairwise (· < ·)
  | [], _ => by simp [addK, posK]
  | y :: r, h => by
    have h' := List.pairwise_cons.1 h
    have ih := addK_rise k r h'.2
    rw [addK_cons]
    split
    · rename_i hs
      rw [List.pairwise_cons]
      refine ⟨fun z hz => ?_, ih⟩
      rcases (addK_mem k z r).1 hz with h1 | h1
      · exact h'.1 z h1
      · rw [h1]; exact sless_iff.1 hs
    · split
      · exact h
      · rename_i hs hne
        have hky : k < y := by
          rcases sle_cases (List.not_lt.1 (fun hc => hs (sless_iff.2 hc))) with h1 | h1
          · exact h1
          · exact absurd h1.symm hne
        rw [List.pairwise_cons]
        refine ⟨fun z hz => ?_, h⟩
        rcases List.mem_cons.1 hz with h1 | h1
        · rw [h1]; exact hky
        · exact slt_trans hky (h'.1 z h1)
theorem foldK (l : List (List UInt8)) : ∀ (acc : List (List UInt8)), acc.Pairwise (· < ·) → (l.foldl addK acc).Pairwise (· < ·) ∧ ∀ x, x ∈ l.foldl addK acc ↔ x ∈ acc ∨ x ∈ l := by
  induction l with
  | nil => intro acc h; exact ⟨h, by simp⟩
  | cons k l ih =>
    intro acc h
    obtain ⟨h1, h2⟩ := ih (addK acc k) (addK_rise k acc h)
    refine ⟨h1, fun x => ?_⟩
    rw [List.foldl_cons, h2, addK_mem, List.mem_cons, or_assoc]
theorem sortU_fold (l : List (List UInt8)) : l.foldl addK [] = sortU l := by
  obtain ⟨h1, h2⟩ := foldK l [] List.Pairwise.nil
  refine rise_ext h1 (sortU_rise l) fun x => ?_
  rw [h2, sortU_mem]; simp
end Go.Proofs.Ytbmnhcffmgicnaa

namespace Go.Proofs.Ytbmnhcffmgicnaa
open Go.Proofs Go.Shelf
def Try.lays190_ren : Go.Shelf.Ren := ⟨fun | 190 => 19 | 125 => 33 | 258 => 32 | 128 => 43 | 129 => 44 | 302 => 34 | 303 => 35 | 304 => 36 | 305 => 37 | 306 => 38 | 307 => 39 | 308 => 40 | 309 => 41 | 310 => 42 | 333 => 45 | 329 => 46 | 330 => 47 | 334 => 48 | 335 => 49 | 336 => 50 | 344 => 51 | n => n, fun | 31 => 22 | 9 => 9 | 3 => 3 | 46 => 55 | 0 => 0 | 51 => 67 | 53 => 69 | 4 => 4 | 183 => 59 | 182 => 58 | 131 => 64 | 5 => 5 | 218 => 70 | 222 => 74 | 228 => 77 | 229 => 49 | n => n, fun | n => n⟩
theorem lays190 : Go.Proofs.Lays.n190 Try.prog Try.lays190_ren := {
  mixed := by kernel_rfl
  f125 := Try.func33.trans (congrArg some (by kernel_rfl))
  f128 := Try.func43.trans (congrArg some (by kernel_rfl))
  f129 := Try.func44.trans (congrArg some (by kernel_rfl))
  f190 := Try.func19.trans (congrArg some (by kernel_rfl))
  f258 := Try.func32.trans (congrArg some (by kernel_rfl))
  f302 := Try.func34.trans (congrArg some (by kernel_rfl))
  f303 := Try.func35.trans (congrArg some (by kernel_rfl))
  f304 := Try.func36.trans (congrArg some (by kernel_rfl))
  f305 := Try.func37.trans (congrArg some (by kernel_rfl))
  f306 := Try.func38.trans (congrArg some (by kernel_rfl))
  f307 := Try.func39.trans (congrArg some (by kernel_rfl))
  f308 := Try.func40.trans (congrArg some (by kernel_rfl))
  f309 := Try.func41.trans (congrArg some (by kernel_rfl))
  f310 := Try.func42.trans (congrArg some (by kernel_rfl))
  f329 := Try.func46.trans (congrArg some (by kernel_rfl))
  f330 := Try.func47.trans (congrArg some (by kernel_rfl))
  f333 := Try.func45.trans (congrArg some (by kernel_rfl))
  f334 := Try.func48.trans (congrArg some (by kernel_rfl))
  f335 := Try.func49.trans (congrArg some (by kernel_rfl))
  f336 := Try.func50.trans (congrArg some (by kernel_rfl))
  f344 := Try.func51.trans (congrArg some (by kernel_rfl))
  t0 := Try.underlying0
  a0 := Try.isAgg0
  z0 := Try.sizeOf0
  v0 := Try.zeroValue0
  t3 := Try.underlying3
  a3 := Try.isAgg3
  z3 := Try.sizeOf3
  v3 := Try.zeroValue3
  t4 := Try.underlying4
  a4 := Try.isAgg4
  z4 := Try.sizeOf4
  v4 := Try.zeroValue4
  t5 := Try.underlying5
  a5 := Try.isAgg5
  z5 := Try.sizeOf5
  v5 := Try.zeroValue5
  t9 := Try.underlying9
  a9 := Try.isAgg9
  z9 := Try.sizeOf9
  v9 := Try.zeroValue9
  t31 := Try.underlying22
  a31 := Try.isAgg22
  z31 := Try.sizeOf22
  v31 := Try.zeroValue22
  t46 := Try.underlying55
  a46 := Try.isAgg55
  z46 := Try.sizeOf55
  v46 := Try.zeroValue55
  t51 := Try.underlying67
  a51 := Try.isAgg67
  z51 := Try.sizeOf67
  v51 := Try.zeroValue67
  t53 := Try.underlying69
  a53 := Try.isAgg69
  z53 := Try.sizeOf69
  v53 := Try.zeroValue69
  t131 := Try.underlying64
  a131 := Try.isAgg64
  z131 := Try.sizeOf64
  v131 := Try.zeroValue64
  t182 := Try.underlying58
  a182 := Try.isAgg58
  z182 := Try.sizeOf58
  v182 := Try.zeroValue58
  t183 := Try.underlying59
  a183 := Try.isAgg59
  z183 := Try.sizeOf59
  v183 := Try.zeroValue59
  t218 := Try.underlying70
  a218 := Try.isAgg70
  z218 := Try.sizeOf70
  v218 := Try.zeroValue70
  t222 := Try.underlying74
  a222 := Try.isAgg74
  z222 := Try.sizeOf74
  v222 := Try.zeroValue74
  t228 := Try.underlying77
  a228 := Try.isAgg77
  z228 := Try.sizeOf77
  v228 := Try.zeroValue77
  t229 := Try.underlying49
  a229 := Try.isAgg49
  z229 := Try.sizeOf49
  v229 := Try.zeroValue49 }
end Go.Proofs.Ytbmnhcffmgicnaa

set_option linter.unusedVariables false
set_option linter.unusedSimpArgs false
set_option maxRecDepth 8000
set_option maxHeartbeats 4000000
namespace Go.Proofs.Ytbmnhcffmgicnaa
open Go.Eng
theorem fSort : FnOk Try.prog 19 := ⟨_, Try.func19, by decide, rfl⟩
noncomputable def iSort : Eng.Spec := sortSpec .str sortStr
theorem pSort : SpecOk Try.prog 19 iSort := sortStr_ok lays190 rfl
def sCompact : OSpec := ⟨9, .str, [], fun xs _ => xs.length ≤ 1000000, fun xs _ => compL (α := List UInt8) xs⟩
theorem fCompact : FnOk Try.prog 20 := ⟨_, Try.func20, by decide, rfl⟩
theorem pCompact : SpecOk Try.prog 20 sCompact.spec := by
  refine oOk (T := tab) (S := (spOf [])) (keep := k20) (by kernel_rfl) tabOk spNil (by kernel_rfl) Try.func20 (by kernel_rfl) (by decide) (by decide) fun xs ys k hg hgt hmax hp => ?_
  obtain ⟨⟩ := ys
  change List (List UInt8) at xs
  change xs.length ≤ 1000000 at hp
  clear hg hgt
  show vfun tab _ k20 Try.f20 [.vw 0 .str 0 xs.length true] [(0, .raw 9 .str (xs.map some ++ List.replicate k (none : Option (Ty.den .str))))] _
  refine Ev.out ?_
  repeat' (first | ((with_reducible refine Ev.mk ?_); conv => whnf) | (with_reducible refine And.intro ?_ ?_) | (intro h))
  all_goals (try simp only [decide_eq_true_eq, decide_eq_false_iff_not, beq_iff_eq, bne_iff_ne, beq_eq_false_iff_ne, bne_eq_false_iff_eq, Int.toNat_natCast, ge_iff_le, gt_iff_lt, Bool.not_eq_true', Bool.not_eq_false', Int.not_lt, Int.not_le, ne_eq] at *)
  all_goals (try dsimp only [Ty.den, Ty.dflt, .str] at *)
  all_goals (try simp only [eq4, ne4, eq3, ne3, eq2, ne2, Prod.eta, List.length_cons, List.length_nil, List.length_append, Nat.zero_add] at *)
  all_goals (try simp (disch := omega) only [wrap64] at *)
  all_goals (try simp only [Int.sub_zero, Int.toNat_natCast, Int.toNat_sub, Int.toNat_zero, Nat.zero_add, toNat_add', toNat_addsub, toNat_subadd, List.length_map, List.length_append, List.length_replicate, List.length_take, List.length_drop] at *)
  · refine Leaf.mk (readO_vw.trans (congrArg some (?_ : _ = (compL xs).map some)))
    rw [compL_short (by omega)]
    refine (raw_take (Nat.le_refl _)).trans ?_
    rw [take_all (Nat.le_refl _)]
  have hrg : ∀ i, i < xs.length → (xs.map some ++ List.replicate k none).getD i none = some (xs.getD i []) := fun i h => raw_getD [] h
  refine LoopVC.on (fun n : Nat => [(3, .i .i64 n)]) (fun _ => []) (fun n => 1 ≤ n ∧ n ≤ xs.length ∧ compL (xs.take n) = xs.take n) (fun n => xs.length - n) 1 rfl ⟨by omega, by omega, compL_short (by rw [List.length_take]; omega)⟩ ?_
  intro n ⟨hn1, hn, he⟩
  repeat' (first | ((with_reducible refine Ev.mk ?_); conv => whnf) | (with_reducible refine And.intro ?_ ?_) | (intro h))
  all_goals (try simp only [decide_eq_true_eq, decide_eq_false_iff_not, beq_iff_eq, bne_iff_ne, beq_eq_false_iff_ne, bne_eq_false_iff_eq, Int.toNat_natCast, ge_iff_le, gt_iff_lt, Bool.not_eq_true', Bool.not_eq_false', Int.not_lt, Int.not_le, ne_eq] at *)
  all_goals (try dsimp only [Ty.den, Ty.dflt, .str] at *)
  all_goals (try simp only [eq4, ne4, eq3, ne3, eq2, ne2, Prod.eta, List.length_cons, List.length_nil, List.length_append, Nat.zero_add] at *)
  all_goals (try simp (disch := omega) only [wrap64] at *)
  all_goals (try simp only [Int.sub_zero, Int.toNat_natCast, Int.toNat_sub, Int.toNat_zero, Nat.zero_add, toNat_add', toNat_addsub, toNat_subadd, List.length_map, List.length_append, List.length_replicate, List.length_take, List.length_drop] at *)
  all_goals try rw [show ((n : Int) - 1).toNat = n - 1 by omega] at *
  all_goals try rw [hrg n (by omega), hrg (n - 1) (by omega)] at *
  all_goals try rw [hrg n (by omega)] at *
  all_goals try rw [hrg (n - 1) (by omega)] at *
  all_goals try first | exact leafDraw (by kernel_rfl) | exact Leaf.mk trivial | (refine Leaf.mk ?_; omega) | (refine Leaf.mk ?_; unfold maxLen; omega)
  all_goals try simp only [Option.getD_some] at *
  all_goals try exact Leaf.mk rfl
  rotate_left
  · refine Leaf.mk ⟨n + 1, rfl, ⟨by omega, by omega, ?_⟩, by omega⟩
    rw [compL_ne [] hn1 (by omega) h, he, take_at [] (by omega)]
  · refine Leaf.mk (readO_vw.trans (congrArg some (?_ : _ = (compL xs).map some)))
    rw [take_all (by omega)] at he
    rw [he]
    refine (raw_take (Nat.le_refl _)).trans ?_
    rw [take_all (Nat.le_refl _)]
  refine LoopVC.on (fun a : Nat × Nat × List (Option (List UInt8)) => [(3, .i .i64 a.1), (5, .i .i64 ((a.2.1 - n : Nat) : Int))]) (fun a => [(0, .raw 9 .str a.2.2)]) (fun a => n + 1 ≤ a.2.1 ∧ CF xs k a.2.2 a.1 a.2.1) (fun a => xs.length - a.2.1) (n, n + 1, xs.map some ++ List.replicate k none) ?_ ⟨Nat.le_refl _, CF.first [] hn1 (by omega) he h⟩ ?_
  · show _ = _
    rw [show n + 1 - n = 1 by omega]; rfl
  intro ⟨i, j, zs⟩ ⟨hj, q⟩
  dsimp only at hj q ⊢
  have hlt := q.lt
  have hle := q.le
  have hzl := q.len
  have hg1 := fun h => q.get [] (m := j) (by omega) h
  have hg2 := fun h => q.get [] (m := j - 1) (Nat.le_refl _) h
  repeat' (first | ((with_reducible refine Ev.mk ?_); conv => whnf) | (with_reducible refine And.intro ?_ ?_) | (intro h))
  all_goals (try simp only [decide_eq_true_eq, decide_eq_false_iff_not, beq_iff_eq, bne_iff_ne, beq_eq_false_iff_ne, bne_eq_false_iff_eq, Int.toNat_natCast, ge_iff_le, gt_iff_lt, Bool.not_eq_true', Bool.not_eq_false', Int.not_lt, Int.not_le, ne_eq] at *)
  all_goals (try dsimp only [Ty.den, Ty.dflt, .str] at *)
  all_goals (try simp only [eq4, ne4, eq3, ne3, eq2, ne2, Prod.eta, List.length_cons, List.length_nil, List.length_append, Nat.zero_add] at *)
  all_goals (try simp (disch := omega) only [wrap64] at *)
  all_goals (try simp only [Int.sub_zero, Int.toNat_natCast, Int.toNat_sub, Int.toNat_zero, Nat.zero_add, toNat_add', toNat_addsub, toNat_subadd, List.length_map, List.length_append, List.length_replicate, List.length_take, List.length_drop] at *)
  all_goals try rw [show n + (j - n) = j by omega] at *
  all_goals try rw [show n + (((j - n : Nat) : Int) - 1).toNat = j - 1 by omega] at *
  all_goals try rw [hg1 (by omega)] at *
  all_goals try rw [hg2 (by omega)] at *
  all_goals try simp only [Option.getD_some, Option.isSome_some] at *
  all_goals try first | exact leafDraw (by kernel_rfl) | exact Leaf.mk trivial | (refine Leaf.mk ?_; omega) | (refine Leaf.mk ?_; unfold maxLen; omega)
  all_goals try first
    | exact Leaf.mk rfl
    | (refine Leaf.mk ⟨(i + 1, j + 1, zs.set i (some (xs.getD j []))), ?_, ⟨by dsimp only; omega, q.new [] (by omega) ‹¬ _›⟩, by dsimp only; omega⟩
       dsimp only
       rw [show j + 1 - n = (j - n) + 1 by omega]; rfl)
    | (refine Leaf.mk ⟨(i, j + 1, zs), ?_, ⟨by dsimp only; omega, q.same [] (by omega) h⟩, by dsimp only; omega⟩
       dsimp only
       rw [show j + 1 - n = (j - n) + 1 by omega]; rfl)
  obtain rfl : j = xs.length := by omega
  refine Leaf.mk (readO_vw.trans (congrArg some (?_ : _ = (compL xs).map some)))
  change List.take (α := Option (List UInt8)) _ _ = _
  rw [List.append_assoc, List.take_append_of_le_length (by rw [List.length_take]; omega), List.take_take, Nat.min_self]
  exact q.fin
end Go.Proofs.Ytbmnhcffmgicnaa

set_option linter.unusedVariables false
set_option linter.unusedSimpArgs false
set_option maxRecDepth 8000
set_option maxHeartbeats 4000000
namespace Go.Proofs.Ytbmnhcffmgicnaa
open Go.Eng
abbrev StrT : Ty := .str
abbrev StrsT : Ty := .slice .str
abbrev Str := List UInt8
def sortF (l : List Str) : List Str := l.foldl addK []
theorem sortF_len (l : List Str) : (sortF l).length ≤ l.length := by rw [sortF, sortU_fold]; exact sortU_len l
theorem posK_at {k : Str} : ∀ {l : List Str} {i : Nat}, i ≤ l.length → (∀ j, j < i → sless (l.getD j []) k = true) → posK k l = i + posK k (l.drop i)
  | l, 0, _, _ => by simp
  | [], i + 1, h, _ => by simp at h
  | x :: r, i + 1, h, hj => by
    have h0 := hj 0 (by omega)
    have ih := posK_at (l := r) (i := i) (by simpa using h) (fun j hji => hj (j + 1) (by omega))
    rw [posK, if_pos (by simpa using h0), ih]; simp; omega
def sCloneS : PSpec := ⟨[.d (.slice .str)], [⟨false, [.o 9 .str]⟩], fun x => x.1.length ≤ 1000000, fun x => ((x.1, ()), ())⟩
theorem fCloneS : FnOk Try.prog 18 := ⟨_, Try.func18, by decide, rfl⟩
theorem pCloneS : PSound Try.prog 18 sCloneS := by
  refine psound (T := tab) (S := (spOf [])) (keep := k18) (by kernel_rfl) tabOk spNil (by kernel_rfl) Try.func18 (by kernel_rfl) (by decide) fun xs hg hp => ?_
  obtain ⟨xs, ⟨⟩⟩ := xs
  obtain ⟨⟨hl, -⟩, -⟩ := hg
  change List Str at xs
  clear hl
  change xs.length ≤ 1000000 at hp
  show vfun tab _ k18 Try.f18 [.sl .str xs] [] _
  refine Ev.out ?_
  repeat' (first | ((with_reducible refine Ev.mk ?_); conv => whnf) | (with_reducible refine And.intro ?_ ?_) | (intro h))
  all_goals (try simp only [decide_eq_true_eq, decide_eq_false_iff_not, beq_iff_eq, bne_iff_ne, beq_eq_false_iff_ne, bne_eq_false_iff_eq, Int.toNat_natCast, ge_iff_le, gt_iff_lt, Bool.not_eq_true', Bool.not_eq_false', Int.not_lt, Int.not_le, ne_eq] at *)
  all_goals (try dsimp only [Ty.den, Ty.dflt, .str] at *)
  all_goals (try simp only [eq4, ne4, eq3, ne3, eq2, ne2, Prod.eta, List.length_cons, List.length_nil, List.length_append, Nat.zero_add] at *)
  all_goals (try simp (disch := omega) only [wrap64] at *)
  all_goals try first | exact leafDraw (by kernel_rfl) | exact Leaf.mk trivial | (refine Leaf.mk ?_; omega) | (refine Leaf.mk ?_; unfold maxLen; omega)
  all_goals first
    | (refine Leaf.mk (ret1 (show ([] : List Str) = xs from ?_)); exact (List.eq_nil_of_length_eq_zero (by omega)).symm)
    | exact Leaf.mk (ret1 rfl)
    | skip
def sSorted : PSpec := ⟨[.d StrsT], [⟨false, [.d StrsT]⟩], fun x => List.length x.1 ≤ 100000, fun x => ((sortF x.1, ()), ())⟩
def sSortedR : PSpec := sSorted
theorem fSorted : FnOk Try.prog 6 := ⟨_, Try.func6, by decide, rfl⟩
theorem pSorted : PSound Try.prog 6 sSorted := by
  refine psound (T := tab) (S := (spOf [(18, sCloneS.spec (lsOf [])), (19, iSort), (20, sCompact.spec)])) (keep := k6) (by kernel_rfl) tabOk (spCons (pOk pCloneS fCloneS (by decide) lsNil) (spCons (.inl ⟨pSort, fSort⟩) (spCons (.inl ⟨pCompact, fCompact⟩) spNil))) (by kernel_rfl) Try.func6 (by kernel_rfl) (by decide) fun xs hg hp => ?_
  obtain ⟨l, ⟨⟩⟩ := xs
  change List Str at l
  change l.length ≤ 100000 at hp
  clear hg
  show vfun tab _ k6 Try.f6 [.sl .str l] [] _
  refine Ev.out ?_
  repeat' (first | ((with_reducible refine Ev.mk ?_); conv => whnf) | (with_reducible refine And.intro ?_ ?_) | (intro h))
  all_goals (try simp only [decide_eq_true_eq, decide_eq_false_iff_not, beq_iff_eq, bne_iff_ne, beq_eq_false_iff_ne, bne_eq_false_iff_eq, Int.toNat_natCast, ge_iff_le, gt_iff_lt, Bool.not_eq_true', Bool.not_eq_false', Int.not_lt, Int.not_le, ne_eq] at *)
  all_goals (try dsimp only [Ty.den, Ty.dflt, StrsT, sCloneS] at *)
  all_goals (try simp only [eq4, ne4, eq3, ne3, eq2, ne2, Prod.eta, List.length_cons, List.length_nil, List.length_append, Nat.zero_add] at *)
  all_goals (try simp (disch := omega) only [wrap64] at *)
  all_goals try first | exact leafDraw (by kernel_rfl) | exact Leaf.mk trivial | (refine Leaf.mk ?_; omega) | (refine Leaf.mk ?_; unfold maxLen; omega)
  all_goals
    have h1 := sortStr_len l
  all_goals first
    | exact Leaf.mk (show l.length ≤ 1000000 by omega)
    | (refine Leaf.mk ?_; omega)
    | exact Leaf.mk (show (sortStr l).length ≤ 1000000 by omega)
    | (refine Leaf.mk (ret1 (show compL (sortStr l) = sortF l from ?_))
       rw [sortF, sortU_fold]; rfl)
theorem fSortedR : FnOk Try.prog 7 := ⟨_, Try.func7, by decide, rfl⟩
theorem pSortedR : PSound Try.prog 7 sSortedR := by
  refine psound (T := tab) (S := (spOf [])) (keep := k7) (by kernel_rfl) tabOk spNil (by kernel_rfl) Try.func7 (by kernel_rfl) (by decide) fun xs hg hp => ?_
  obtain ⟨l, ⟨⟩⟩ := xs
  change List Str at l
  change l.length ≤ 100000 at hp
  clear hg
  show vfun tab _ k7 Try.f7 [.sl .str l] [] _
  refine Ev.out ?_
  repeat' (first | ((with_reducible refine Ev.mk ?_); conv => whnf) | (with_reducible refine And.intro ?_ ?_) | (intro h))
  all_goals (try simp only [decide_eq_true_eq, decide_eq_false_iff_not, beq_iff_eq, bne_iff_ne, beq_eq_false_iff_ne, bne_eq_false_iff_eq, Int.toNat_natCast, ge_iff_le, gt_iff_lt, Bool.not_eq_true', Bool.not_eq_false', Int.not_lt, Int.not_le, ne_eq] at *)
  all_goals (try dsimp only [Ty.den, Ty.dflt, StrsT] at *)
  all_goals (try simp only [eq4, ne4, eq3, ne3, eq2, ne2, Prod.eta, List.length_cons, List.length_nil, List.length_append, Nat.zero_add] at *)
  all_goals (try simp (disch := omega) only [wrap64] at *)
  all_goals try first | exact leafDraw (by kernel_rfl) | exact Leaf.mk trivial | (refine Leaf.mk ?_; omega) | (refine Leaf.mk ?_; unfold maxLen; omega)
  refine LoopVC.weak2 [(.slot 3, .sl .str)] (fun i : Nat => [(3, .sl .str (sortF (l.take i))), (4, .i .i64 i)]) (fun _ => []) (fun i => i ≤ l.length) (fun i => l.length - i) 0 (Ev.mk ?_)
  (conv => whnf)
  refine ⟨Leaf.mk ?_, Leaf.mk ?_, ?_⟩
  · rfl
  · omega
  intro i hi
  have hsl := sortF_len (l.take i)
  have htl : (l.take i).length ≤ i := by rw [List.length_take]; omega
  have hat : ∀ h : i < l.length, sortF (l.take (i + 1)) = addK (sortF (l.take i)) (l.getD i []) := fun h => foldl_at [] h
  generalize hO : sortF (l.take i) = O at *
  repeat' (first | ((with_reducible refine Ev.mk ?_); conv => whnf) | (with_reducible refine And.intro ?_ ?_) | (intro h))
  all_goals (try simp only [decide_eq_true_eq, decide_eq_false_iff_not, beq_iff_eq, bne_iff_ne, beq_eq_false_iff_ne, bne_eq_false_iff_eq, Int.toNat_natCast, ge_iff_le, gt_iff_lt, Bool.not_eq_true', Bool.not_eq_false', Int.not_lt, Int.not_le, ne_eq] at *)
  all_goals (try dsimp only [Ty.den, Ty.dflt, StrsT] at *)
  all_goals (try simp only [eq4, ne4, eq3, ne3, eq2, ne2, Prod.eta, List.length_cons, List.length_nil, List.length_append, Nat.zero_add] at *)
  all_goals (try simp (disch := omega) only [wrap64] at *)
  all_goals try first | exact leafDraw (by kernel_rfl) | exact Leaf.mk trivial | (refine Leaf.mk ?_; omega) | (refine Leaf.mk ?_; unfold maxLen; omega)
  rotate_right
  · refine Leaf.mk (ret1 (show O = sortF l from ?_))
    rw [← hO, take_all (by omega)]
  refine LoopVC.on (fun p : Nat => [(5, .i .i64 p)]) (fun _ => []) (fun p => p ≤ O.length ∧ ∀ j, j < p → sless (O.getD j []) (l.getD i []) = true) (fun p => O.length - p) 0 rfl ⟨by omega, fun j hj => by omega⟩ ?_
  intro p ⟨hp1, hj⟩
  have hpk := posK_at hp1 hj
  repeat' (first | ((with_reducible refine Ev.mk ?_); conv => whnf) | (with_reducible refine And.intro ?_ ?_) | (intro h))
  all_goals (try simp only [decide_eq_true_eq, decide_eq_false_iff_not, beq_iff_eq, bne_iff_ne, beq_eq_false_iff_ne, bne_eq_false_iff_eq, Int.toNat_natCast, ge_iff_le, gt_iff_lt, Bool.not_eq_true', Bool.not_eq_false', Int.not_lt, Int.not_le, ne_eq] at *)
  all_goals (try dsimp only [Ty.den, Ty.dflt, StrsT] at *)
  all_goals (try simp only [eq4, ne4, eq3, ne3, eq2, ne2, Prod.eta, List.length_cons, List.length_nil, List.length_append, Nat.zero_add] at *)
  all_goals (try simp (disch := omega) only [wrap64] at *)
  all_goals try first | exact leafDraw (by kernel_rfl) | exact Leaf.mk trivial | (refine Leaf.mk ?_; omega) | (refine Leaf.mk ?_; unfold maxLen; omega)
  all_goals try simp only [Int.toNat_zero, List.drop_zero, List.nil_append, take_all (Nat.le_refl O.length)] at *
  all_goals try first
    | (refine Leaf.mk ?_; simp only [List.length_take, List.length_drop]; omega)
    | (refine Leaf.mk ?_; simp only [List.length_take, List.length_drop]; unfold maxLen; omega)
  · refine Leaf.mk ⟨p + 1, rfl, ⟨by omega, fun j hji => ?_⟩, by omega⟩
    rcases Nat.lt_or_ge j p with h1 | h1
    · exact hj j h1
    · obtain rfl : j = p := by omega
      assumption
  all_goals
    have hpi : posK (l.getD i []) O = p := by
      rw [hpk]
      first
      | (rw [drop_end (by omega)]; rfl)
      | (rw [drop_at [] (by omega), posK, if_neg (by rw [‹sless _ _ = false›]; simp)]; omega)
    have hA : addK O (l.getD i []) = if p < O.length ∧ O.getD p [] = l.getD i [] then O else O.take p ++ [l.getD i []] ++ O.drop p := by rw [addK, hpi]
  all_goals first
    | (refine Leaf.mk ⟨i + 1, .inl ?_, by omega, by omega⟩
       rw [hat (by omega), hA, if_pos ⟨by omega, h⟩]; rfl)
    | (refine Leaf.mk ⟨i + 1, .inr ⟨[(.slot 3, .frz)], ?_⟩, by omega, by omega⟩
       (conv => whnf)
       rw [hat (by omega), hA, if_neg (fun hc => by first | exact h hc.2 | omega)]; rfl)
end Go.Proofs.Ytbmnhcffmgicnaa

set_option linter.unusedVariables false
set_option linter.unusedSimpArgs false
set_option maxRecDepth 8000
set_option maxHeartbeats 4000000
namespace Go.Proofs.Ytbmnhcffmgicnaa
open Go.Eng
def leS (k p : Str) : Bool := sless p k || p == k
def placeF (l : List Str) (k : Str) : Nat := l.countP (leS k)
theorem pl_in {k : Str} {xs : List Str} {i : Nat} (h : i < xs.length) (hs : (sless (xs.getD i []) k || xs.getD i [] == k) = true) : (xs.take (i + 1)).countP (leS k) = (xs.take i).countP (leS k) + 1 := by
  rw [countP_at [] h, if_pos (show leS k (xs.getD i []) = true from hs)]
theorem pl_out {k : Str} {xs : List Str} {i : Nat} (h : i < xs.length) (hs : (sless (xs.getD i []) k || xs.getD i [] == k) = false) : (xs.take (i + 1)).countP (leS k) = (xs.take i).countP (leS k) := by
  rw [countP_at [] h, if_neg (show ¬ leS k (xs.getD i []) = true by rw [show leS k (xs.getD i []) = false from hs]; simp)]; rfl
def sPlace33 : PSpec := ⟨[.d StrsT, .d .str], [⟨false, [.d (.int .i64)]⟩], fun _ => True, fun x => (((placeF x.1 x.2.1 : Nat), ()), ())⟩
def sPlace33R : PSpec := sPlace33
theorem fPlace33 : FnOk Try.prog 10 := ⟨_, Try.func10, by decide, rfl⟩
theorem pPlace33 : PSound Try.prog 10 sPlace33 := by
  refine psound (T := tab) (S := (spOf [])) (keep := k10) (by kernel_rfl) tabOk spNil (by kernel_rfl) Try.func10 (by kernel_rfl) (by decide) fun xs hg hp => ?_
  obtain ⟨xs, k, ⟨⟩⟩ := xs
  obtain ⟨⟨hl, -⟩, -⟩ := hg
  change List Str at xs
  change Str at k
  change xs.length ≤ _ at hl
  have hl := len63 hl
  clear hp
  show vfun tab _ k10 Try.f10 [.sl .str xs, .s k] [] _
  refine Ev.out ?_
  repeat' (first | ((with_reducible refine Ev.mk ?_); conv => whnf) | (with_reducible refine And.intro ?_ ?_) | (intro h))
  all_goals (try simp only [decide_eq_true_eq, decide_eq_false_iff_not, beq_iff_eq, bne_iff_ne, beq_eq_false_iff_ne, bne_eq_false_iff_eq, Int.toNat_natCast, ge_iff_le, gt_iff_lt, Bool.not_eq_true', Bool.not_eq_false', Int.not_lt, Int.not_le, ne_eq] at *)
  all_goals (try dsimp only [Ty.den, Ty.dflt, StrsT] at *)
  all_goals (try simp only [eq4, ne4, eq3, ne3, eq2, ne2, Prod.eta, List.length_cons, List.length_nil, List.length_append, Nat.zero_add] at *)
  all_goals (try simp (disch := omega) only [wrap64] at *)
  all_goals try first | exact leafDraw (by kernel_rfl) | exact Leaf.mk trivial | (refine Leaf.mk ?_; omega) | (refine Leaf.mk ?_; unfold maxLen; omega)
  refine LoopVC.on (fun i : Nat => [(5, .i .i64 (((xs.take i).countP (leS k) : Nat) : Int)), (10, .i .i64 i)]) (fun _ => []) (fun i => i ≤ xs.length) (fun i => xs.length - i) 0 rfl (by omega) ?_
  intro i hi
  have hc := countP_take_le (xs := xs) (i := i) (p := leS k)
  repeat' (first | ((with_reducible refine Ev.mk ?_); conv => whnf) | (with_reducible refine And.intro ?_ ?_) | (intro h))
  all_goals (try simp only [decide_eq_true_eq, decide_eq_false_iff_not, beq_iff_eq, bne_iff_ne, beq_eq_false_iff_ne, bne_eq_false_iff_eq, Int.toNat_natCast, ge_iff_le, gt_iff_lt, Bool.not_eq_true', Bool.not_eq_false', Int.not_lt, Int.not_le, ne_eq] at *)
  all_goals (try dsimp only [Ty.den, Ty.dflt, StrsT] at *)
  all_goals (try simp only [eq4, ne4, eq3, ne3, eq2, ne2, Prod.eta, List.length_cons, List.length_nil, List.length_append, Nat.zero_add] at *)
  all_goals (try simp (disch := omega) only [wrap64] at *)
  all_goals try first | exact leafDraw (by kernel_rfl) | exact Leaf.mk trivial | (refine Leaf.mk ?_; omega) | (refine Leaf.mk ?_; unfold maxLen; omega)
  all_goals first
    | (refine Leaf.mk ⟨i + 1, ?_, by omega, by omega⟩
       first
       | (rw [pl_in (by omega) ‹(_ || _) = true›]; rfl)
       | (rw [pl_out (by omega) ‹(_ || _) = false›]; rfl))
    | (refine Leaf.mk (ret1 (show _ = ((placeF xs k : Nat) : Int) from ?_))
       rw [placeF, take_all (by omega)])
theorem fPlace33R : FnOk Try.prog 11 := ⟨_, Try.func11, by decide, rfl⟩
theorem pPlace33R : PSound Try.prog 11 sPlace33R := by
  refine psound (T := tab) (S := (spOf [])) (keep := k11) (by kernel_rfl) tabOk spNil (by kernel_rfl) Try.func11 (by kernel_rfl) (by decide) fun xs hg hp => ?_
  obtain ⟨xs, k, ⟨⟩⟩ := xs
  obtain ⟨⟨hl, -⟩, -⟩ := hg
  change List Str at xs
  change Str at k
  change xs.length ≤ _ at hl
  have hl := len63 hl
  clear hp
  show vfun tab _ k11 Try.f11 [.sl .str xs, .s k] [] _
  refine Ev.out ?_
  repeat' (first | ((with_reducible refine Ev.mk ?_); conv => whnf) | (with_reducible refine And.intro ?_ ?_) | (intro h))
  all_goals (try simp only [decide_eq_true_eq, decide_eq_false_iff_not, beq_iff_eq, bne_iff_ne, beq_eq_false_iff_ne, bne_eq_false_iff_eq, Int.toNat_natCast, ge_iff_le, gt_iff_lt, Bool.not_eq_true', Bool.not_eq_false', Int.not_lt, Int.not_le, ne_eq] at *)
  all_goals (try dsimp only [Ty.den, Ty.dflt, StrsT] at *)
  all_goals (try simp only [eq4, ne4, eq3, ne3, eq2, ne2, Prod.eta, List.length_cons, List.length_nil, List.length_append, Nat.zero_add] at *)
  all_goals (try simp (disch := omega) only [wrap64] at *)
  all_goals try first | exact leafDraw (by kernel_rfl) | exact Leaf.mk trivial | (refine Leaf.mk ?_; omega) | (refine Leaf.mk ?_; unfold maxLen; omega)
  refine LoopVC.on (fun i : Nat => [(5, .i .i64 (((xs.take i).countP (leS k) : Nat) : Int)), (6, .i .i64 i)]) (fun _ => []) (fun i => i ≤ xs.length) (fun i => xs.length - i) 0 rfl (by omega) ?_
  intro i hi
  have hc := countP_take_le (xs := xs) (i := i) (p := leS k)
  repeat' (first | ((with_reducible refine Ev.mk ?_); conv => whnf) | (with_reducible refine And.intro ?_ ?_) | (intro h))
  all_goals (try simp only [decide_eq_true_eq, decide_eq_false_iff_not, beq_iff_eq, bne_iff_ne, beq_eq_false_iff_ne, bne_eq_false_iff_eq, Int.toNat_natCast, ge_iff_le, gt_iff_lt, Bool.not_eq_true', Bool.not_eq_false', Int.not_lt, Int.not_le, ne_eq] at *)
  all_goals (try dsimp only [Ty.den, Ty.dflt, StrsT] at *)
  all_goals (try simp only [eq4, ne4, eq3, ne3, eq2, ne2, Prod.eta, List.length_cons, List.length_nil, List.length_append, Nat.zero_add] at *)
  all_goals (try simp (disch := omega) only [wrap64] at *)
  all_goals try first | exact leafDraw (by kernel_rfl) | exact Leaf.mk trivial | (refine Leaf.mk ?_; omega) | (refine Leaf.mk ?_; unfold maxLen; omega)
  all_goals first
    | (refine Leaf.mk ⟨i + 1, ?_, by omega, by omega⟩
       first
       | (rw [pl_in (by omega) ‹(_ || _) = true›]; rfl)
       | (rw [pl_out (by omega) ‹(_ || _) = false›]; rfl))
    | (refine Leaf.mk (ret1 (show _ = ((placeF xs k : Nat) : Int) from ?_))
       rw [placeF, take_all (by omega)])
def pivN (s : List Str) (m : Nat) (k : Nat) : List Str := (List.range (k - 1)).map fun j => s.getD ((j + 1) * s.length / m) []
def mN (s : List Str) (n : Int) : Int := if ((s.length : Nat) : Int) < n then ((s.length : Nat) : Int) else n
def pivF (l : List Str) (n : Int) : List Str := pivN (sortF l) (mN (sortF l) n).toNat (mN (sortF l) n).toNat
theorem pivN_len (s : List Str) (m k : Nat) : (pivN s m k).length = k - 1 := by rw [pivN, List.length_map, List.length_range]
theorem pivN_at (s : List Str) (m : Nat) {k : Nat} (h : 1 ≤ k) : pivN s m (k + 1) = pivN s m k ++ [s.getD (k * s.length / m) []] := by
  obtain ⟨j, rfl⟩ : ∃ j, k = j + 1 := ⟨k - 1, by omega⟩
  rw [pivN, pivN, Nat.add_sub_cancel, List.range_succ, List.map_append]; simp
def sPivots : PSpec := ⟨[.d StrsT, .d (.int .i64)], [⟨false, [.d StrsT]⟩], fun x => List.length x.1 ≤ 100000, fun x => ((pivF x.1 x.2.1, ()), ())⟩
def sPivotsR : PSpec := sPivots
theorem fPivots : FnOk Try.prog 8 := ⟨_, Try.func8, by decide, rfl⟩
theorem pPivots : PSound Try.prog 8 sPivots := by
  refine psound (T := tab) (S := (spOf [(6, sSorted.spec (lsOf []))])) (keep := k8) (by kernel_rfl) tabOk (spCons (pOk pSorted fSorted (by decide) lsNil) spNil) (by kernel_rfl) Try.func8 (by kernel_rfl) (by decide) fun xs hg hp => ?_
  obtain ⟨l, n, ⟨⟩⟩ := xs
  change List Str at l
  change Int at n
  change l.length ≤ 100000 at hp
  clear hg
  show vfun tab _ k8 Try.f8 [.sl .str l, .i .i64 n] [] _
  refine Ev.out ?_
  repeat' (first | ((with_reducible refine Ev.mk ?_); conv => whnf) | (with_reducible refine And.intro ?_ ?_) | (intro h))
  · exact Leaf.mk hp
  generalize hs : (sSorted.fn (l, ())).1.1 = s at *
  change sortF l = s at hs
  change List Str at s
  all_goals (try simp only [decide_eq_true_eq, decide_eq_false_iff_not, beq_iff_eq, bne_iff_ne, beq_eq_false_iff_ne, bne_eq_false_iff_eq, Int.toNat_natCast, ge_iff_le, gt_iff_lt, Bool.not_eq_true', Bool.not_eq_false', Int.not_lt, Int.not_le, ne_eq] at *)
  all_goals (try dsimp only [Ty.den, Ty.dflt, StrsT] at *)
  all_goals (try simp only [eq4, ne4, eq3, ne3, eq2, ne2, Prod.eta, List.length_cons, List.length_nil, List.length_append, Nat.zero_add] at *)
  all_goals (try simp (disch := omega) only [wrap64] at *)
  all_goals try first | exact leafDraw (by kernel_rfl) | exact Leaf.mk trivial | (refine Leaf.mk ?_; omega) | (refine Leaf.mk ?_; unfold maxLen; omega)
  rw [show (if ((s.length : Nat) : Int) < n then ((s.length : Nat) : Int) else n) = mN s n from rfl]
  have hm : mN s n ≤ (s.length : Nat) := by unfold mN; split <;> omega
  have hsl := sortF_len l
  have hF : pivF l n = pivN (sortF l) (mN (sortF l) n).toNat (mN (sortF l) n).toNat := rfl
  rw [hs] at hsl hF
  clear hs
  generalize mN s n = M at *
  refine LoopVC.weak [(.slot 6, .nil 9 .str)] (fun j : Nat => [(7, .i .i64 j)]) (fun j => [(0, .arr 9 .str (pivN s M.toNat j))]) (fun j => 1 ≤ j ∧ ((j : Int) ≤ M ∨ j = 1)) (fun j => M.toNat - j) 1 (Ev.mk ?_)
  (conv => whnf)
  refine ⟨Leaf.mk rfl, Leaf.mk ?_, ?_⟩
  · exact ⟨by omega, .inr rfl⟩
  intro j ⟨hj1, hjm⟩
  have hpl := pivN_len s M.toNat j
  have hat := pivN_at s M.toNat hj1
  have hjl : (j : Int) < M → j * s.length ≤ 100000 * 100000 := fun h => Nat.mul_le_mul (by omega) (by omega)
  have hdl : (j : Int) < M → j * s.length / M.toNat < s.length := fun h => by
    refine Nat.div_lt_of_lt_mul ?_
    exact Nat.mul_lt_mul_of_pos_right (by omega) (by omega)
  repeat' (first | ((with_reducible refine Ev.mk ?_); conv => whnf) | (with_reducible refine And.intro ?_ ?_) | (intro h))
  all_goals (try simp only [decide_eq_true_eq, decide_eq_false_iff_not, beq_iff_eq, bne_iff_ne, beq_eq_false_iff_ne, bne_eq_false_iff_eq, Int.toNat_natCast, ge_iff_le, gt_iff_lt, Bool.not_eq_true', Bool.not_eq_false', Int.not_lt, Int.not_le, ne_eq] at *)
  all_goals (try dsimp only [Ty.den, Ty.dflt, StrsT] at *)
  all_goals (try simp only [eq4, ne4, eq3, ne3, eq2, ne2, Prod.eta, List.length_cons, List.length_nil, List.length_append, Nat.zero_add] at *)
  all_goals (try simp (disch := omega) only [wrap64] at *)
  all_goals try first | exact leafDraw (by kernel_rfl) | exact Leaf.mk trivial | (refine Leaf.mk ?_; omega) | (refine Leaf.mk ?_; unfold maxLen; omega)
  all_goals try rw [← Int.natCast_mul] at *
  all_goals try rw [wrap64 (n := ((j * s.length : Nat) : Int)) (by have := hjl (by omega); omega)] at *
  all_goals try rw [show (((j * s.length : Nat) : Int)).tdiv M = ((j * s.length / M.toNat : Nat) : Int) by
    obtain ⟨m, rfl⟩ := Int.eq_ofNat_of_zero_le (show 0 ≤ M by omega)
    rw [Int.toNat_natCast, Int.natCast_ediv, Int.tdiv_eq_ediv_of_nonneg (by omega)]] at *
  all_goals generalize hq : j * s.length / M.toNat = q at *
  all_goals have hw : (j : Int) < M → IntKind.i64.wrap (q : Int) = (q : Int) := fun h => wrap64 (by have := hdl h; omega)
  all_goals try rw [hw (by omega)] at *
  all_goals try rw [Int.toNat_natCast] at *
  all_goals first
    | (refine Leaf.mk ?_; omega)
    | (refine Leaf.mk ?_; unfold maxLen; omega)
    | (refine Leaf.mk ?_; have := hdl (by omega); omega)
    | (refine Leaf.mk ⟨j + 1, ?_, ⟨by omega, by omega⟩, by omega⟩
       rw [hat]; rfl)
    | (refine Leaf.mk (ret1 (show pivN s M.toNat j = pivF l n from ?_))
       rw [hF, pivN, pivN, show j - 1 = M.toNat - 1 by omega])
    | skip
  all_goals trace_state
  all_goals sorry
theorem fPivotsR : FnOk Try.prog 9 := ⟨_, Try.func9, by decide, rfl⟩
theorem pPivotsR : PSound Try.prog 9 sPivotsR := by
  refine psound (T := tab) (S := (spOf [(7, sSortedR.spec (lsOf []))])) (keep := k9) (by kernel_rfl) tabOk (spCons (pOk pSortedR fSortedR (by decide) lsNil) spNil) (by kernel_rfl) Try.func9 (by kernel_rfl) (by decide) fun xs hg hp => ?_
  obtain ⟨l, n, ⟨⟩⟩ := xs
  change List Str at l
  change Int at n
  change l.length ≤ 100000 at hp
  clear hg
  show vfun tab _ k9 Try.f9 [.sl .str l, .i .i64 n] [] _
  refine Ev.out ?_
  repeat' (first | ((with_reducible refine Ev.mk ?_); conv => whnf) | (with_reducible refine And.intro ?_ ?_) | (intro h))
  · exact Leaf.mk hp
  generalize hs : (sSortedR.fn (l, ())).1.1 = s at *
  change sortF l = s at hs
  change List Str at s
  all_goals (try simp only [decide_eq_true_eq, decide_eq_false_iff_not, beq_iff_eq, bne_iff_ne, beq_eq_false_iff_ne, bne_eq_false_iff_eq, Int.toNat_natCast, ge_iff_le, gt_iff_lt, Bool.not_eq_true', Bool.not_eq_false', Int.not_lt, Int.not_le, ne_eq] at *)
  all_goals (try dsimp only [Ty.den, Ty.dflt, StrsT] at *)
  all_goals (try simp only [eq4, ne4, eq3, ne3, eq2, ne2, Prod.eta, List.length_cons, List.length_nil, List.length_append, Nat.zero_add] at *)
  all_goals (try simp (disch := omega) only [wrap64] at *)
  all_goals try first | exact leafDraw (by kernel_rfl) | exact Leaf.mk trivial | (refine Leaf.mk ?_; omega) | (refine Leaf.mk ?_; unfold maxLen; omega)
  rw [show (if ((s.length : Nat) : Int) < n then ((s.length : Nat) : Int) else n) = mN s n from rfl]
  have hm : mN s n ≤ (s.length : Nat) := by unfold mN; split <;> omega
  have hsl := sortF_len l
  have hF : pivF l n = pivN (sortF l) (mN (sortF l) n).toNat (mN (sortF l) n).toNat := rfl
  rw [hs] at hsl hF
  clear hs
  generalize mN s n = M at *
  refine LoopVC.weak [(.slot 7, .nil 9 .str)] (fun j : Nat => [(8, .i .i64 j)]) (fun j => [(0, .arr 9 .str (pivN s M.toNat j))]) (fun j => 1 ≤ j ∧ ((j : Int) ≤ M ∨ j = 1)) (fun j => M.toNat - j) 1 (Ev.mk ?_)
  (conv => whnf)
  refine ⟨Leaf.mk rfl, Leaf.mk ?_, ?_⟩
  · exact ⟨by omega, .inr rfl⟩
  intro j ⟨hj1, hjm⟩
  have hpl := pivN_len s M.toNat j
  have hat := pivN_at s M.toNat hj1
  have hjl : (j : Int) < M → j * s.length ≤ 100000 * 100000 := fun h => Nat.mul_le_mul (by omega) (by omega)
  have hdl : (j : Int) < M → j * s.length / M.toNat < s.length := fun h => by
    refine Nat.div_lt_of_lt_mul ?_
    exact Nat.mul_lt_mul_of_pos_right (by omega) (by omega)
  repeat' (first | ((with_reducible refine Ev.mk ?_); conv => whnf) | (with_reducible refine And.intro ?_ ?_) | (intro h))
  all_goals (try simp only [decide_eq_true_eq, decide_eq_false_iff_not, beq_iff_eq, bne_iff_ne, beq_eq_false_iff_ne, bne_eq_false_iff_eq, Int.toNat_natCast, ge_iff_le, gt_iff_lt, Bool.not_eq_true', Bool.not_eq_false', Int.not_lt, Int.not_le, ne_eq] at *)
  all_goals (try dsimp only [Ty.den, Ty.dflt, StrsT] at *)
  all_goals (try simp only [eq4, ne4, eq3, ne3, eq2, ne2, Prod.eta, List.length_cons, List.length_nil, List.length_append, Nat.zero_add] at *)
  all_goals (try simp (disch := omega) only [wrap64] at *)
  all_goals try first | exact leafDraw (by kernel_rfl) | exact Leaf.mk trivial | (refine Leaf.mk ?_; omega) | (refine Leaf.mk ?_; unfold maxLen; omega)
  all_goals try rw [← Int.natCast_mul] at *
  all_goals try rw [wrap64 (n := ((j * s.length : Nat) : Int)) (by have := hjl (by omega); omega)] at *
  all_goals try rw [show (((j * s.length : Nat) : Int)).tdiv M = ((j * s.length / M.toNat : Nat) : Int) by
    obtain ⟨m, rfl⟩ := Int.eq_ofNat_of_zero_le (show 0 ≤ M by omega)
    rw [Int.toNat_natCast, Int.natCast_ediv, Int.tdiv_eq_ediv_of_nonneg (by omega)]] at *
  all_goals generalize hq : j * s.length / M.toNat = q at *
  all_goals have hw : (j : Int) < M → IntKind.i64.wrap (q : Int) = (q : Int) := fun h => wrap64 (by have := hdl h; omega)
  all_goals try rw [hw (by omega)] at *
  all_goals try rw [Int.toNat_natCast] at *
  all_goals first
    | (refine Leaf.mk ?_; omega)
    | (refine Leaf.mk ?_; unfold maxLen; omega)
    | (refine Leaf.mk ?_; have := hdl (by omega); omega)
    | (refine Leaf.mk ⟨j + 1, ?_, ⟨by omega, by omega⟩, by omega⟩
       rw [hat]; rfl)
    | (refine Leaf.mk (ret1 (show pivN s M.toNat j = pivF l n from ?_))
       rw [hF, pivN, pivN, show j - 1 = M.toNat - 1 by omega])
    | skip
  all_goals trace_state
  all_goals sorry
end Go.Proofs.Ytbmnhcffmgicnaa

set_option linter.unusedVariables false
set_option linter.unusedSimpArgs false
set_option maxRecDepth 8000
set_option maxHeartbeats 4000000
namespace Go.Proofs.Ytbmnhcffmgicnaa
open Go.Eng
abbrev CntT : Ty := .pair .str (.pair (.int .i64) (.int .i64))
abbrev CntsT : Ty := .slice CntT
abbrev Cnt := Str × Int × Int
abbrev cnt0 : Cnt := ([], 0, 0)
abbrev PairT : Ty := .pair .str .str
abbrev Pr := Str × Str
abbrev I64T : Ty := .int .i64
abbrev w64 (n : Int) : Int := IntKind.i64.wrap n
theorem w64_add (a b : Int) : w64 (w64 a + b) = w64 (a + b) := by
  unfold w64; simp only [IntKind.wrap_i64]; omega
def totF (l : List Int) : Int := l.foldl (fun n x => w64 (n + x)) 0
theorem totF_two (a b : Int) : totF [a, b] = w64 (a + b) := by
  show w64 (w64 (0 + a) + b) = _
  rw [w64_add, Int.zero_add]
def sTotal : PSpec := ⟨[.d (.slice (.int .i64))], [⟨false, [.d (.int .i64)]⟩], fun _ => True, fun x => ((totF x.1, ()), ())⟩
theorem fTotal : FnOk Try.prog 25 := ⟨_, Try.func25, by decide, rfl⟩
theorem pTotal : PSound Try.prog 25 sTotal := by
  refine psound (T := tab) (S := (spOf [])) (keep := k25) (by kernel_rfl) tabOk spNil (by kernel_rfl) Try.func25 (by kernel_rfl) (by decide) fun xs hg hp => ?_
  obtain ⟨xs, ⟨⟩⟩ := xs
  obtain ⟨⟨hl, -⟩, -⟩ := hg
  change List Int at xs
  change xs.length ≤ _ at hl
  have hl := len63 hl
  clear hp
  show vfun tab _ k25 Try.f25 [.sl (.int .i64) xs] [] _
  refine Ev.out ?_
  repeat' (first | ((with_reducible refine Ev.mk ?_); conv => whnf) | (with_reducible refine And.intro ?_ ?_) | (intro h))
  all_goals (try simp only [decide_eq_true_eq, decide_eq_false_iff_not, beq_iff_eq, bne_iff_ne, beq_eq_false_iff_ne, bne_eq_false_iff_eq, Int.toNat_natCast, ge_iff_le, gt_iff_lt, Bool.not_eq_true', Bool.not_eq_false', Int.not_lt, Int.not_le, ne_eq] at *)
  all_goals (try dsimp only [Ty.den, Ty.dflt, I64T] at *)
  all_goals (try simp only [eq4, ne4, eq3, ne3, eq2, ne2, Prod.eta, List.length_cons, List.length_nil, List.length_append, Nat.zero_add] at *)
  all_goals (try simp (disch := omega) only [wrap64] at *)
  all_goals try first | exact leafDraw (by kernel_rfl) | exact Leaf.mk trivial | (refine Leaf.mk ?_; omega) | (refine Leaf.mk ?_; unfold maxLen; omega)
  refine LoopVC.on (fun i : Nat => [(3, .i .i64 (totF (xs.take i))), (8, .i .i64 i)]) (fun _ => []) (fun i => i ≤ xs.length) (fun i => xs.length - i) 0 rfl (by omega) ?_
  intro i hi
  have hat : ∀ h : i < xs.length, totF (xs.take (i + 1)) = w64 (totF (xs.take i) + xs.getD i 0) := fun h => foldl_at 0 h
  repeat' (first | ((with_reducible refine Ev.mk ?_); conv => whnf) | (with_reducible refine And.intro ?_ ?_) | (intro h))
  all_goals (try simp only [decide_eq_true_eq, decide_eq_false_iff_not, beq_iff_eq, bne_iff_ne, beq_eq_false_iff_ne, bne_eq_false_iff_eq, Int.toNat_natCast, ge_iff_le, gt_iff_lt, Bool.not_eq_true', Bool.not_eq_false', Int.not_lt, Int.not_le, ne_eq] at *)
  all_goals (try dsimp only [Ty.den, Ty.dflt, I64T] at *)
  all_goals (try simp only [eq4, ne4, eq3, ne3, eq2, ne2, Prod.eta, List.length_cons, List.length_nil, List.length_append, Nat.zero_add] at *)
  all_goals (try simp (disch := omega) only [wrap64] at *)
  all_goals try first | exact leafDraw (by kernel_rfl) | exact Leaf.mk trivial | (refine Leaf.mk ?_; omega) | (refine Leaf.mk ?_; unfold maxLen; omega)
  all_goals first
    | (refine Leaf.mk ⟨i + 1, ?_, by omega, by omega⟩
       rw [hat (by omega)]; rfl)
    | (refine Leaf.mk (ret1 (show _ = totF xs from ?_))
       rw [take_all (by omega)])
def addC (c d : Cnt) : Cnt := (c.1, w64 (c.2.1 + d.2.1), w64 (c.2.2 + d.2.2))
def sAddC : PSpec := ⟨[.d CntT, .d CntT], [⟨true, [.d CntT]⟩], fun _ => True, fun x => ((addC x.1 x.2.1, ()), ())⟩
theorem fAddC : FnOk Try.prog 24 := ⟨_, Try.func24, by decide, rfl⟩
theorem pAddC : PSound Try.prog 24 sAddC := by
  refine psound (T := tab) (S := (spOf [(25, sTotal.spec (lsOf []))])) (keep := k24) (by kernel_rfl) tabOk (spCons (pOk pTotal fTotal (by decide) lsNil) spNil) (by kernel_rfl) Try.func24 (by kernel_rfl) (by decide) fun xs hg hp => ?_
  obtain ⟨⟨lo, k, b⟩, ⟨lo2, k2, b2⟩, ⟨⟩⟩ := xs
  change Str at lo lo2
  change Int at k b k2 b2
  show vfun tab _ k24 Try.f24 [.agg [.s lo, .i .i64 k, .i .i64 b], .agg [.s lo2, .i .i64 k2, .i .i64 b2]] [] _
  refine Ev.out ?_
  repeat' (first | ((with_reducible refine Ev.mk ?_); conv => whnf) | (with_reducible refine And.intro ?_ ?_) | (intro h))
  all_goals (try simp only [decide_eq_true_eq, decide_eq_false_iff_not, beq_iff_eq, bne_iff_ne, beq_eq_false_iff_ne, bne_eq_false_iff_eq, Int.toNat_natCast, ge_iff_le, gt_iff_lt, Bool.not_eq_true', Bool.not_eq_false', Int.not_lt, Int.not_le, ne_eq] at *)
  all_goals (try dsimp only [Ty.den, Ty.dflt, CntT] at *)
  all_goals (try simp only [eq4, ne4, eq3, ne3, eq2, ne2, Prod.eta, List.length_cons, List.length_nil, List.length_append, Nat.zero_add] at *)
  all_goals (try simp (disch := omega) only [wrap64] at *)
  all_goals try first | exact leafDraw (by kernel_rfl) | exact Leaf.mk trivial | (refine Leaf.mk ?_; omega) | (refine Leaf.mk ?_; unfold maxLen; omega)
  all_goals first
    | exact Leaf.mk trivial
    | skip
  refine Leaf.mk (ret1 (show ((lo, totF [k, k2], totF [b, b2]) : Cnt) = addC (lo, k, b) (lo2, k2, b2) from ?_))
  rw [totF_two, totF_two]; rfl
def loAt (pv : List Str) (i : Nat) : Str := if i = 0 then [] else pv.getD (i - 1) []
def stepC (pv : List Str) (i : Nat) (a : Int × Int) (p : Pr) : Int × Int := if placeF pv p.1 = i then (w64 (a.1 + 1), w64 (a.2 + w64 ((p.1.length : Nat) + (p.2.length : Nat)))) else a
def cntI (pv : List Str) (l : List Pr) (i : Nat) : Int × Int := l.foldl (stepC pv i) (0, 0)
def countsF (pv : List Str) (l : List Pr) : List Cnt := (List.range (pv.length + 1)).map fun i => (loAt pv i, (cntI pv l i).1, (cntI pv l i).2)
theorem placeF_le (pv : List Str) (k : Str) : placeF pv k ≤ pv.length := List.countP_le_length
theorem countsF_len (pv : List Str) (l : List Pr) : (countsF pv l).length = pv.length + 1 := by rw [countsF, List.length_map, List.length_range]
theorem countsF_get (pv : List Str) (l : List Pr) {i : Nat} (h : i ≤ pv.length) : (countsF pv l).getD i cnt0 = (loAt pv i, (cntI pv l i).1, (cntI pv l i).2) := by
  rw [countsF, List.getD_eq_getElem?_getD, List.getElem?_map, List.getElem?_range (by omega)]; rfl
theorem cntI_at (pv : List Str) {l : List Pr} {j : Nat} (h : j < l.length) (i : Nat) : cntI pv (l.take (j + 1)) i = stepC pv i (cntI pv (l.take j) i) (l.getD j ([], [])) := foldl_at ([], []) h
theorem countsF_at (pv : List Str) {l : List Pr} {j : Nat} (h : j < l.length) : countsF pv (l.take (j + 1)) = (countsF pv (l.take j)).set (placeF pv (l.getD j ([], [])).1) (addC ((countsF pv (l.take j)).getD (placeF pv (l.getD j ([], [])).1) cnt0) ([], 1, w64 (((l.getD j ([], [])).1.length : Nat) + ((l.getD j ([], [])).2.length : Nat)))) := by
  have hp := placeF_le pv (l.getD j ([], [])).1
  rw [countsF_get _ _ hp]
  generalize hk : placeF pv (l.getD j ([], [])).1 = k at *
  apply List.ext_getElem?
  intro i
  rw [List.getElem?_set, countsF_len]
  by_cases hi : i < pv.length + 1
  · have e1 : ∀ l' : List Pr, (countsF pv l')[i]? = some (loAt pv i, (cntI pv l' i).1, (cntI pv l' i).2) := fun l' => by
      rw [countsF, List.getElem?_map, List.getElem?_range hi]; rfl
    rw [e1, e1, cntI_at pv h i, stepC, hk]
    by_cases hki : k = i
    · subst hki; rw [if_pos rfl, if_pos rfl, if_pos (by omega)]; rfl
    · rw [if_neg hki, if_neg hki]
  · rw [List.getElem?_eq_none (by rw [countsF_len]; omega), List.getElem?_eq_none (by rw [countsF_len]; omega)]
    split
    · omega
    · rfl
def sCounts : PSpec := ⟨[.d StrsT, .d (.slice PairT)], [⟨false, [.d CntsT]⟩], fun x => List.length x.1 ≤ 100000 ∧ List.length x.2.1 ≤ 100000, fun x => ((countsF x.1 x.2.1, ()), ())⟩
theorem countsF_nil (pv : List Str) : countsF pv [] = (List.range (pv.length + 1)).map fun i => (loAt pv i, (0 : Int), (0 : Int)) := rfl
def losN (pv : List Str) (i : Nat) : List Cnt := (List.range (i + 1)).map fun i => (loAt pv i, (0 : Int), (0 : Int))
theorem losN_len (pv : List Str) (i : Nat) : (losN pv i).length = i + 1 := by rw [losN, List.length_map, List.length_range]
theorem losN_at (pv : List Str) (i : Nat) : losN pv (i + 1) = losN pv i ++ [(pv.getD i [], 0, 0)] := by
  rw [losN, List.range_succ, List.map_append]; rfl
theorem fCounts : FnOk Try.prog 14 := ⟨_, Try.func14, by decide, rfl⟩
theorem pCounts : PSound Try.prog 14 sCounts := by
  refine psound (T := tab) (S := (spOf [(10, sPlace33.spec (lsOf [])), (24, sAddC.spec (lsOf [])), (25, sTotal.spec (lsOf []))])) (keep := k14) (by kernel_rfl) tabOk (spCons (pOk pPlace33 fPlace33 (by decide) lsNil) (spCons (pOk pAddC fAddC (by decide) lsNil) (spCons (pOk pTotal fTotal (by decide) lsNil) spNil))) (by kernel_rfl) Try.func14 (by kernel_rfl) (by decide) fun xs hg hp => ?_
  obtain ⟨pv, l, ⟨⟩⟩ := xs
  change List Str at pv
  change List Pr at l
  change pv.length ≤ 100000 ∧ l.length ≤ 100000 at hp
  obtain ⟨hp1, hp2⟩ := hp
  clear hg
  show vfun tab _ k14 Try.f14 [.sl .str pv, .sl PairT l] [] _
  refine Ev.out ?_
  repeat' (first | ((with_reducible refine Ev.mk ?_); conv => whnf) | (with_reducible refine And.intro ?_ ?_) | (intro h))
  all_goals (try simp only [decide_eq_true_eq, decide_eq_false_iff_not, beq_iff_eq, bne_iff_ne, beq_eq_false_iff_ne, bne_eq_false_iff_eq, Int.toNat_natCast, ge_iff_le, gt_iff_lt, Bool.not_eq_true', Bool.not_eq_false', Int.not_lt, Int.not_le, ne_eq] at *)
  all_goals (try dsimp only [Ty.den, Ty.dflt, StrsT, PairT, CntT] at *)
  all_goals (try simp only [eq4, ne4, eq3, ne3, eq2, ne2, Prod.eta, List.length_cons, List.length_nil, List.length_append, Nat.zero_add] at *)
  all_goals (try simp (disch := omega) only [wrap64] at *)
  all_goals try first | exact leafDraw (by kernel_rfl) | exact Leaf.mk trivial | (refine Leaf.mk ?_; omega) | (refine Leaf.mk ?_; unfold maxLen; omega)
  refine LoopVC.on (fun i : Nat => [(15, .i .i64 i)]) (fun i => [(0, .arr 38 CntT (losN pv i))]) (fun i => i ≤ pv.length) (fun i => pv.length - i) 0 rfl (by omega) ?_
  intro i hi
  have hll := losN_len pv i
  repeat' (first | ((with_reducible refine Ev.mk ?_); conv => whnf) | (with_reducible refine And.intro ?_ ?_) | (intro h))
  all_goals (try simp only [decide_eq_true_eq, decide_eq_false_iff_not, beq_iff_eq, bne_iff_ne, beq_eq_false_iff_ne, bne_eq_false_iff_eq, Int.toNat_natCast, ge_iff_le, gt_iff_lt, Bool.not_eq_true', Bool.not_eq_false', Int.not_lt, Int.not_le, ne_eq] at *)
  all_goals (try dsimp only [Ty.den, Ty.dflt, StrsT, PairT, CntT] at *)
  all_goals (try simp only [eq4, ne4, eq3, ne3, eq2, ne2, Prod.eta, List.length_cons, List.length_nil, List.length_append, Nat.zero_add] at *)
  all_goals (try simp (disch := omega) only [wrap64] at *)
  all_goals try first | exact leafDraw (by kernel_rfl) | exact Leaf.mk trivial | (refine Leaf.mk ?_; omega) | (refine Leaf.mk ?_; unfold maxLen; omega)
  rotate_right
  · obtain rfl : i = pv.length := by omega
    have hz : losN pv pv.length = countsF pv (l.take 0) := by rw [List.take_zero, countsF_nil]; rfl
    rw [hz]
    clear hz hll
    refine LoopVC.on (fun j : Nat => [(27, .i .i64 j)]) (fun j => [(0, .arr 38 CntT (countsF pv (l.take j)))]) (fun j => j ≤ l.length) (fun j => l.length - j) 0 rfl (by omega) ?_
    intro j hj
    have hcl := countsF_len pv (l.take j)
    have hat := fun h => countsF_at pv (l := l) (j := j) h
    have hpl := placeF_le pv (l.getD j ([], [])).1
    repeat' (first | ((with_reducible refine Ev.mk ?_); conv => whnf) | (with_reducible refine And.intro ?_ ?_) | (intro h))
    all_goals (try simp only [decide_eq_true_eq, decide_eq_false_iff_not, beq_iff_eq, bne_iff_ne, beq_eq_false_iff_ne, bne_eq_false_iff_eq, Int.toNat_natCast, ge_iff_le, gt_iff_lt, Bool.not_eq_true', Bool.not_eq_false', Int.not_lt, Int.not_le, ne_eq] at *)
    all_goals (try dsimp only [Ty.den, Ty.dflt, StrsT, PairT, CntT] at *)
    all_goals (try simp only [eq4, ne4, eq3, ne3, eq2, ne2, Prod.eta, List.length_cons, List.length_nil, List.length_append, Nat.zero_add] at *)
    all_goals (try simp (disch := omega) only [wrap64] at *)
    all_goals try first | exact leafDraw (by kernel_rfl) | exact Leaf.mk trivial | (refine Leaf.mk ?_; omega) | (refine Leaf.mk ?_; unfold maxLen; omega)
    all_goals try rw [show (sPlace33.fn (pv, (l.getD j ([], [])).1, ())).1.1 = ((placeF pv (l.getD j ([], [])).1 : Nat) : Int) from rfl, Int.toNat_natCast]
    all_goals try rw [show (sPlace33.fn (pv, (l.getD j ([], [])).1, ())).1.1 = ((placeF pv (l.getD j ([], [])).1 : Nat) : Int) from rfl]
    all_goals first
      | (refine Leaf.mk ?_; omega)
      | (refine Leaf.mk ⟨j + 1, ?_, by omega, by omega⟩
         rw [hat (by omega), ← totF_two]; rfl)
      | (refine Leaf.mk (ret1 (show _ = countsF pv l from ?_))
         rw [take_all (by omega)])
  all_goals first
    | (refine Leaf.mk ?_; omega)
    | (refine Leaf.mk ?_; unfold maxLen; omega)
    | (refine Leaf.mk ⟨i + 1, ?_, by omega, by omega⟩
       rw [losN_at]; rfl)
end Go.Proofs.Ytbmnhcffmgicnaa
