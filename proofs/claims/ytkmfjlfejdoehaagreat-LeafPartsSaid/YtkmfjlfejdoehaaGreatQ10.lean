import Derived.Test.YtkmfjlfejdoehaaGreatEng4
import Derived.Test.YtkmfjlfejdoehaaGreatEng5
import Derived.Shelf.Sort.Plain
import Derived.Test.YtkmfjlfejdoehaaGreatProg
import Derived.Test.YtkmfjlfejdoehaaGreatTab
import Derived.Test.YtkmfjlfejdoehaaGreatQ9
import Derived.Test.YtkmfjlfejdoehaaGreatQ8
/- Texts, one behind the other. -/
set_option linter.unusedVariables false
set_option linter.unusedSimpArgs false
set_option maxRecDepth 8000
set_option maxHeartbeats 4000000
namespace Go.Proofs.YtkmfjlfejdoehaaGreat
open Go.Eng
def cstep {α : Type} [DecidableEq α] (acc : List α) (x : α) : List α := if acc.getLast? = some x then acc else acc ++ [x]
def compL {α : Type} [DecidableEq α] (l : List α) : List α := l.foldl cstep []
section
variable {α : Type} [DecidableEq α]
theorem compL_snoc (l : List α) (x : α) : compL (l ++ [x]) = cstep (compL l) x := by rw [compL, List.foldl_append]; rfl
theorem compL_rev : ∀ (n : Nat) (l : List α), l.length = n → (compL l).getLast? = l.getLast? ∧ (compL l).length ≤ l.length
  | 0, l, h => by rw [List.eq_nil_of_length_eq_zero h]; exact ⟨rfl, Nat.le_refl _⟩
  | n + 1, l, h => by
    have hne : l ≠ [] := by rintro rfl; simp at h
    rw [← List.dropLast_concat_getLast hne]
    have h3 : l.dropLast.length = l.length - 1 := List.length_dropLast
    have ih := compL_rev n l.dropLast (by omega)
    rw [compL_snoc, cstep]
    split
    · rename_i hs
      rw [hs, List.length_append]; exact ⟨by simp, by have := ih.2; simp; omega⟩
    · rw [List.length_append, List.length_append]; exact ⟨by simp, by have := ih.2; simp; omega⟩
theorem compL_last (l : List α) : (compL l).getLast? = l.getLast? := (compL_rev _ l rfl).1
theorem compL_len (l : List α) : (compL l).length ≤ l.length := (compL_rev _ l rfl).2
theorem compL_short {l : List α} (h : l.length < 2) : compL l = l := by
  match l, h with
  | [], _ => rfl
  | [x], _ => rfl
theorem compL_step (d : α) {xs : List α} {n : Nat} (h1 : 1 ≤ n) (h : n < xs.length) : compL (xs.take (n + 1)) = if xs.getD (n - 1) d = xs.getD n d then compL (xs.take n) else compL (xs.take n) ++ [xs.getD n d] := by
  rw [take_at d h, compL_snoc, cstep, compL_last]
  have e : (xs.take n).getLast? = some (xs.getD (n - 1) d) := by
    rw [List.getLast?_eq_getElem?, List.length_take, Nat.min_eq_left (by omega), List.getElem?_take, if_pos (by omega), List.getElem?_eq_getElem (by omega)]
    simp [List.getD, show n - 1 < xs.length by omega]
  rw [e]
  simp only [Option.some.injEq]
theorem compL_eq (d : α) {xs : List α} {n : Nat} (h1 : 1 ≤ n) (h : n < xs.length) (he : xs.getD n d = xs.getD (n - 1) d) : compL (xs.take (n + 1)) = compL (xs.take n) := by
  rw [compL_step d h1 h, if_pos he.symm]
theorem compL_ne (d : α) {xs : List α} {n : Nat} (h1 : 1 ≤ n) (h : n < xs.length) (he : ¬ xs.getD n d = xs.getD (n - 1) d) : compL (xs.take (n + 1)) = compL (xs.take n) ++ [xs.getD n d] := by
  rw [compL_step d h1 h, if_neg (fun hc => he hc.symm)]
end
structure CF {α : Type} [DecidableEq α] (xs : List α) (k : Nat) (zs : List (Option α)) (i j : Nat) : Prop where
  len : zs.length = xs.length + k
  cnt : i = (compL (xs.take j)).length
  lt : i < j
  le : j ≤ xs.length
  front : zs.take i = (compL (xs.take j)).map some
  rest : zs.drop (j - 1) = (xs.map some ++ List.replicate k none).drop (j - 1)
section
variable {α : Type} [DecidableEq α] {xs : List α} {k : Nat} {zs : List (Option α)} {i j : Nat}
theorem CF.get (q : CF xs k zs i j) (d : α) {m : Nat} (h : j - 1 ≤ m) (h2 : m < xs.length) : zs.getD m none = some (xs.getD m d) := by
  rw [← raw_getD (k := k) d h2, List.getD_eq_getElem?_getD, List.getD_eq_getElem?_getD]
  have := congrArg (·[m - (j - 1)]?) q.rest
  simp only [List.getElem?_drop, show j - 1 + (m - (j - 1)) = m by omega] at this
  rw [this]
theorem CF.first (d : α) {n : Nat} (h1 : 1 ≤ n) (h : n < xs.length) (hc : compL (xs.take n) = xs.take n) (he : xs.getD n d = xs.getD (n - 1) d) : CF xs k (xs.map some ++ List.replicate k none) n (n + 1) := by
  have e : compL (xs.take (n + 1)) = xs.take n := by rw [compL_eq d h1 h he, hc]
  exact ⟨by simp, by rw [e, List.length_take]; omega, by omega, by omega, by rw [e, raw_take (by omega)], rfl⟩
theorem CF.same (q : CF xs k zs i j) (d : α) (h : j < xs.length) (he : xs.getD j d = xs.getD (j - 1) d) : CF xs k zs i (j + 1) := by
  have hlt := q.lt
  have e : compL (xs.take (j + 1)) = compL (xs.take j) := compL_eq d (by omega) h he
  refine ⟨q.len, by rw [e]; exact q.cnt, by omega, by omega, by rw [e]; exact q.front, ?_⟩
  have := congrArg (List.drop 1) q.rest
  simp only [List.drop_drop] at this
  rw [show j - 1 + 1 = j by omega] at this
  rw [Nat.add_sub_cancel]; exact this
theorem CF.new (q : CF xs k zs i j) (d : α) (h : j < xs.length) (he : ¬ xs.getD j d = xs.getD (j - 1) d) : CF xs k (zs.set i (some (xs.getD j d))) (i + 1) (j + 1) := by
  have hlt := q.lt
  have e : compL (xs.take (j + 1)) = compL (xs.take j) ++ [xs.getD j d] := compL_ne d (by omega) h he
  have hl := q.len
  refine ⟨by rw [List.length_set]; exact hl, by rw [e, List.length_append, ← q.cnt]; rfl, by omega, by omega, ?_, ?_⟩
  · rw [e, List.map_append, ← q.front, take_at none (by rw [List.length_set]; omega), List.take_set_of_le (Nat.le_refl _)]
    congr 1
    rw [List.getD_eq_getElem?_getD, List.getElem?_set_self (by omega)]; rfl
  · have := congrArg (List.drop 1) q.rest
    simp only [List.drop_drop] at this
    rw [show j - 1 + 1 = j by omega] at this
    rw [Nat.add_sub_cancel, List.drop_set_of_lt (by omega)]; exact this
theorem CF.fin (q : CF xs k zs i xs.length) : zs.take i = (compL xs).map some := by
  have := q.front
  rwa [take_all (Nat.le_refl _)] at this
end
theorem sle_cases {x y : List UInt8} (h : x ≤ y) : x < y ∨ x = y := by
  by_cases hx : x < y
  · exact .inl hx
  · exact .inr (slt_total hx (List.not_lt.2 h))
theorem rise_ext : ∀ {a b : List (List UInt8)}, a.Pairwise (· < ·) → b.Pairwise (· < ·) → (∀ x, x ∈ a ↔ x ∈ b) → a = b
  | [], [], _, _, _ => rfl
  | [], y :: b, _, _, h => absurd ((h y).2 List.mem_cons_self) (by simp)
  | x :: a, [], _, _, h => absurd ((h x).1 List.mem_cons_self) (by simp)
  | x :: a, y :: b, ha, hb, h => by
    rw [List.pairwise_cons] at ha hb
    have hxy : x = y := by
      rcases List.mem_cons.1 ((h x).1 List.mem_cons_self) with h1 | h1
      · exact h1
      · rcases List.mem_cons.1 ((h y).2 List.mem_cons_self) with h2 | h2
        · exact h2.symm
        · exact absurd (hb.1 x h1) (slt_asymm (ha.1 y h2))
    subst hxy
    congr 1
    refine rise_ext ha.2 hb.2 fun z => ⟨fun hz => ?_, fun hz => ?_⟩
    · rcases List.mem_cons.1 ((h z).1 (List.mem_cons_of_mem _ hz)) with h1 | h1
      · subst h1; exact absurd (ha.1 z hz) (slt_irrefl z)
      · exact h1
    · rcases List.mem_cons.1 ((h z).2 (List.mem_cons_of_mem _ hz)) with h1 | h1
      · subst h1; exact absurd (hb.1 z hz) (slt_irrefl z)
      · exact h1
theorem sortStr_pw (l : List (List UInt8)) : (sortStr l).Pairwise (· ≤ ·) := by
  have := List.pairwise_mergeSort (le := fun x y : List UInt8 => decide (x ≤ y)) (fun a b c h1 h2 => by
    simp only [decide_eq_true_eq] at *; exact List.le_trans h1 h2) (fun a b => by
    simp only [Bool.or_eq_true, decide_eq_true_eq]; exact List.le_total a b) l
  exact this.imp fun h => by simpa using h
theorem sortStr_mem {l : List (List UInt8)} {x : List UInt8} : x ∈ sortStr l ↔ x ∈ l := (List.mergeSort_perm _ _).mem_iff
theorem sortStr_len (l : List (List UInt8)) : (sortStr l).length = l.length := (List.mergeSort_perm _ _).length_eq
theorem compL_mem' {α : Type} [DecidableEq α] : ∀ (n : Nat) (l : List α), l.length = n → ∀ x, x ∈ compL l ↔ x ∈ l
  | 0, l, h, x => by rw [List.eq_nil_of_length_eq_zero h]; exact Iff.rfl
  | n + 1, l, h, x => by
    have hne : l ≠ [] := by rintro rfl; simp at h
    rw [← List.dropLast_concat_getLast hne]
    have h3 : l.dropLast.length = l.length - 1 := List.length_dropLast
    have ih := compL_mem' n l.dropLast (by omega) x
    rw [compL_snoc, cstep]
    split
    · rename_i hs
      rw [ih, List.mem_append, List.mem_singleton]
      refine ⟨.inl, fun hx => hx.elim id fun hx => ?_⟩
      rw [compL_last] at hs
      rw [hx]; exact List.mem_of_getLast? hs
    · rw [List.mem_append, List.mem_append, ih]
theorem compL_mem {α : Type} [DecidableEq α] {l : List α} {x : α} : x ∈ compL l ↔ x ∈ l := compL_mem' _ l rfl x
theorem compL_rise' : ∀ (n : Nat) (l : List (List UInt8)), l.length = n → l.Pairwise (· ≤ ·) → (compL l).Pairwise (· < ·)
  | 0, l, h, _ => by rw [List.eq_nil_of_length_eq_zero h]; exact List.Pairwise.nil
  | n + 1, l, h, hp => by
    have hne : l ≠ [] := by rintro rfl; simp at h
    rw [← List.dropLast_concat_getLast hne] at hp ⊢
    have h3 : l.dropLast.length = l.length - 1 := List.length_dropLast
    rw [List.pairwise_append] at hp
    have ih := compL_rise' n l.dropLast (by omega) hp.1
    rw [compL_snoc, cstep]
    split
    · exact ih
    · rename_i hs
      rw [List.pairwise_append]
      refine ⟨ih, by simp, fun a ha b hb => ?_⟩
      rw [List.mem_singleton] at hb
      subst hb
      have h4 := hp.2.2 a (compL_mem.1 ha) _ (List.mem_singleton.2 rfl)
      rcases sle_cases h4 with h5 | h5
      · exact h5
      · exfalso
        -- a is the greatest: it is the last
        apply hs
        have hne2 : compL l.dropLast ≠ [] := List.ne_nil_of_mem ha
        rw [List.getLast?_eq_some_getLast hne2]
        congr 1
        have h6 : (compL l.dropLast).getLast hne2 ∈ l.dropLast := compL_mem.1 (List.getLast_mem hne2)
        have h7 := hp.2.2 _ h6 _ (List.mem_singleton.2 rfl)
        rcases sle_cases h7 with h8 | h8
        · exfalso
          rw [← List.dropLast_concat_getLast hne2] at ih ha
          rw [List.pairwise_append] at ih
          rcases List.mem_append.1 ha with h9 | h9
          · have := ih.2.2 a h9 _ (List.mem_singleton.2 rfl)
            rw [h5] at this
            exact slt_asymm this h8
          · rw [List.mem_singleton] at h9
            rw [← h9, h5] at h8; exact slt_irrefl _ h8
        · exact h8
theorem compL_rise {l : List (List UInt8)} (h : l.Pairwise (· ≤ ·)) : (compL l).Pairwise (· < ·) := compL_rise' _ l rfl h
def sortU (l : List (List UInt8)) : List (List UInt8) := compL (sortStr l)
theorem sortU_rise (l : List (List UInt8)) : (sortU l).Pairwise (· < ·) := compL_rise (sortStr_pw l)
theorem sortU_mem {l : List (List UInt8)} {x : List UInt8} : x ∈ sortU l ↔ x ∈ l := by rw [sortU, compL_mem, sortStr_mem]
theorem sortU_len (l : List (List UInt8)) : (sortU l).length ≤ l.length := by
  have := compL_len (sortStr l)
  rw [sortStr_len] at this
  exact this
def posK (k : List UInt8) : List (List UInt8) → Nat
  | [] => 0
  | x :: r => if sless x k = true then posK k r + 1 else 0
def addK (l : List (List UInt8)) (k : List UInt8) : List (List UInt8) := if posK k l < l.length ∧ l.getD (posK k l) [] = k then l else l.take (posK k l) ++ [k] ++ l.drop (posK k l)
theorem addK_cons (x : List UInt8) (r : List (List UInt8)) (k : List UInt8) : addK (x :: r) k = if sless x k = true then x :: addK r k else if x = k then x :: r else k :: x :: r := by
  unfold addK
  rw [posK]
  split
  · simp only [List.length_cons, List.getD_cons_succ, List.take_succ_cons, List.drop_succ_cons, Nat.add_lt_add_iff_right]
    split <;> simp
  · simp only [List.length_cons, Nat.zero_lt_succ, List.getD_cons_zero, true_and, List.take_zero, List.drop_zero, List.nil_append]
    rfl
theorem addK_mem (k x : List UInt8) : ∀ (l : List (List UInt8)), x ∈ addK l k ↔ x ∈ l ∨ x = k
  | [] => by simp [addK, posK]
  | y :: r => by
    have ih := addK_mem k x r
    rw [addK_cons]
    split
    · rw [List.mem_cons, ih, List.mem_cons, or_assoc]
    · split
      · rename_i h; subst h
        rw [List.mem_cons]
        exact ⟨.inl, fun h => h.elim id .inl⟩
      · rw [List.mem_cons]; exact or_comm
theorem addK_rise (k : List UInt8) : ∀ (l : List (List UInt8)), l.Pairwise (· < ·) → (addK l k).Pairwise (· < ·)
  | [], _ => by simp [addK, posK]
  | y :: r, h => by
    have h' := List.pairwise_cons.1 h
    have ih := addK_rise k r h'.2
    rw [addK_cons]
    split
    · rename_i hs
      rw [List.pairwise_cons]
      refine ⟨fun z hz => ?_, ih⟩
      rcases (addK_mem k z r).1 hz with h1 | h1
      · exact h'.1 z h1
      · rw [h1]; exact sless_iff.1 hs
    · split
      · exact h
      · rename_i hs hne
        have hky : k < y := by
          rcases sle_cases (List.not_lt.1 (fun hc => hs (sless_iff.2 hc))) with h1 | h1
          · exact h1
          · exact absurd h1.symm hne
        rw [List.pairwise_cons]
        refine ⟨fun z hz => ?_, h⟩
        rcases List.mem_cons.1 hz with h1 | h1
        · rw [h1]; exact hky
        · exact slt_trans hky (h'.1 z h1)
theorem foldK (l : List (List UInt8)) : ∀ (acc : List (List UInt8)), acc.Pairwise (· < ·) → (l.foldl addK acc).Pairwise (· < ·) ∧ ∀ x, x ∈ l.foldl addK acc ↔ x ∈ acc ∨ x ∈ l := by
  induction l with
  | nil => intro acc h; exact ⟨h, by simp⟩
  | cons k l ih =>
    intro acc h
    obtain ⟨h1, h2⟩ := ih (addK acc k) (addK_rise k acc h)
    refine ⟨h1, fun x => ?_⟩
    rw [List.foldl_cons, h2, addK_mem, List.mem_cons, or_assoc]
theorem sortU_fold (l : List (List UInt8)) : l.foldl addK [] = sortU l := by
  obtain ⟨h1, h2⟩ := foldK l [] List.Pairwise.nil
  refine rise_ext h1 (sortU_rise l) fun x => ?_
  rw [h2, sortU_mem]; simp
end Go.Proofs.YtkmfjlfejdoehaaGreat

namespace Go.Proofs.YtkmfjlfejdoehaaGreat
open Go.Proofs Go.Shelf
def lays190_ren : Go.Shelf.Ren := ⟨fun | 190 => 142 | 125 => 194 | 258 => 193 | 128 => 235 | 129 => 236 | 302 => 226 | 303 => 227 | 304 => 228 | 305 => 229 | 306 => 230 | 307 => 231 | 308 => 232 | 309 => 233 | 310 => 234 | 333 => 247 | 329 => 248 | 330 => 249 | 334 => 250 | 335 => 251 | 336 => 252 | 344 => 256 | n => n, fun | 31 => 82 | 9 => 9 | 3 => 3 | 46 => 179 | 0 => 0 | 51 => 259 | 53 => 187 | 4 => 4 | 183 => 252 | 182 => 251 | 131 => 114 | 5 => 5 | 218 => 268 | 222 => 272 | 228 => 276 | 229 => 277 | n => n, fun | n => n⟩
theorem lays190 : Go.Proofs.Lays.n190 Tryz.prog lays190_ren := {
  mixed := by kernel_rfl
  f125 := Tryz.func194.trans (congrArg some (by kernel_rfl))
  f128 := Tryz.func235.trans (congrArg some (by kernel_rfl))
  f129 := Tryz.func236.trans (congrArg some (by kernel_rfl))
  f190 := Tryz.func142.trans (congrArg some (by kernel_rfl))
  f258 := Tryz.func193.trans (congrArg some (by kernel_rfl))
  f302 := Tryz.func226.trans (congrArg some (by kernel_rfl))
  f303 := Tryz.func227.trans (congrArg some (by kernel_rfl))
  f304 := Tryz.func228.trans (congrArg some (by kernel_rfl))
  f305 := Tryz.func229.trans (congrArg some (by kernel_rfl))
  f306 := Tryz.func230.trans (congrArg some (by kernel_rfl))
  f307 := Tryz.func231.trans (congrArg some (by kernel_rfl))
  f308 := Tryz.func232.trans (congrArg some (by kernel_rfl))
  f309 := Tryz.func233.trans (congrArg some (by kernel_rfl))
  f310 := Tryz.func234.trans (congrArg some (by kernel_rfl))
  f329 := Tryz.func248.trans (congrArg some (by kernel_rfl))
  f330 := Tryz.func249.trans (congrArg some (by kernel_rfl))
  f333 := Tryz.func247.trans (congrArg some (by kernel_rfl))
  f334 := Tryz.func250.trans (congrArg some (by kernel_rfl))
  f335 := Tryz.func251.trans (congrArg some (by kernel_rfl))
  f336 := Tryz.func252.trans (congrArg some (by kernel_rfl))
  f344 := Tryz.func256.trans (congrArg some (by kernel_rfl))
  t0 := Tryz.underlying0
  a0 := Tryz.isAgg0
  z0 := Tryz.sizeOf0
  v0 := Tryz.zeroValue0
  t3 := Tryz.underlying3
  a3 := Tryz.isAgg3
  z3 := Tryz.sizeOf3
  v3 := Tryz.zeroValue3
  t4 := Tryz.underlying4
  a4 := Tryz.isAgg4
  z4 := Tryz.sizeOf4
  v4 := Tryz.zeroValue4
  t5 := Tryz.underlying5
  a5 := Tryz.isAgg5
  z5 := Tryz.sizeOf5
  v5 := Tryz.zeroValue5
  t9 := Tryz.underlying9
  a9 := Tryz.isAgg9
  z9 := Tryz.sizeOf9
  v9 := Tryz.zeroValue9
  t31 := Tryz.underlying82
  a31 := Tryz.isAgg82
  z31 := Tryz.sizeOf82
  v31 := Tryz.zeroValue82
  t46 := Tryz.underlying179
  a46 := Tryz.isAgg179
  z46 := Tryz.sizeOf179
  v46 := Tryz.zeroValue179
  t51 := Tryz.underlying259
  a51 := Tryz.isAgg259
  z51 := Tryz.sizeOf259
  v51 := Tryz.zeroValue259
  t53 := Tryz.underlying187
  a53 := Tryz.isAgg187
  z53 := Tryz.sizeOf187
  v53 := Tryz.zeroValue187
  t131 := Tryz.underlying114
  a131 := Tryz.isAgg114
  z131 := Tryz.sizeOf114
  v131 := Tryz.zeroValue114
  t182 := Tryz.underlying251
  a182 := Tryz.isAgg251
  z182 := Tryz.sizeOf251
  v182 := Tryz.zeroValue251
  t183 := Tryz.underlying252
  a183 := Tryz.isAgg252
  z183 := Tryz.sizeOf252
  v183 := Tryz.zeroValue252
  t218 := Tryz.underlying268
  a218 := Tryz.isAgg268
  z218 := Tryz.sizeOf268
  v218 := Tryz.zeroValue268
  t222 := Tryz.underlying272
  a222 := Tryz.isAgg272
  z222 := Tryz.sizeOf272
  v222 := Tryz.zeroValue272
  t228 := Tryz.underlying276
  a228 := Tryz.isAgg276
  z228 := Tryz.sizeOf276
  v228 := Tryz.zeroValue276
  t229 := Tryz.underlying277
  a229 := Tryz.isAgg277
  z229 := Tryz.sizeOf277
  v229 := Tryz.zeroValue277 }
end Go.Proofs.YtkmfjlfejdoehaaGreat

set_option linter.unusedVariables false
set_option linter.unusedSimpArgs false
set_option maxRecDepth 8000
set_option maxHeartbeats 4000000
namespace Go.Proofs.YtkmfjlfejdoehaaGreat
open Go.Eng
theorem fSort : FnOk Tryz.prog 142 := ⟨_, Tryz.func142, by decide, rfl⟩
noncomputable def iSort : Eng.Spec := sortSpec .str sortStr
theorem pSort : SpecOk Tryz.prog 142 iSort := sortStr_ok lays190 rfl
def sCompact : OSpec := ⟨9, .str, [], fun xs _ => xs.length ≤ 1000000, fun xs _ => compL (α := List UInt8) xs⟩
theorem fCompact : FnOk Tryz.prog 143 := ⟨_, Tryz.func143, by decide, rfl⟩
theorem pCompact : SpecOk Tryz.prog 143 sCompact.spec := by
  refine oOk (T := tab) (S := (spOf [])) (keep := k143) (by kernel_rfl) tabOk spNil (by kernel_rfl) Tryz.func143 (by kernel_rfl) (by decide) (by decide) fun xs ys k hg hgt hmax hp => ?_
  obtain ⟨⟩ := ys
  change List (List UInt8) at xs
  change xs.length ≤ 1000000 at hp
  clear hg hgt
  show vfun tab _ k143 Tryz.f143 [.vw 0 .str 0 xs.length true] [(0, .raw 9 .str (xs.map some ++ List.replicate k (none : Option (Ty.den .str))))] _
  refine Ev.out ?_
  repeat' (first | ((with_reducible refine Ev.mk ?_); conv => whnf) | (with_reducible refine And.intro ?_ ?_) | (intro h))
  all_goals (try simp only [decide_eq_true_eq, decide_eq_false_iff_not, beq_iff_eq, bne_iff_ne, beq_eq_false_iff_ne, bne_eq_false_iff_eq, Int.toNat_natCast, ge_iff_le, gt_iff_lt, Bool.not_eq_true', Bool.not_eq_false', Int.not_lt, Int.not_le, ne_eq] at *)
  all_goals (try dsimp only [Ty.den, Ty.dflt, .str] at *)
  all_goals (try simp only [eq4, ne4, eq3, ne3, eq2, ne2, Prod.eta, List.length_cons, List.length_nil, List.length_append, Nat.zero_add] at *)
  all_goals (try simp (disch := omega) only [wrap64] at *)
  all_goals (try simp only [Int.sub_zero, Int.toNat_natCast, Int.toNat_sub, Int.toNat_zero, Nat.zero_add, toNat_add', toNat_addsub, toNat_subadd, List.length_map, List.length_append, List.length_replicate, List.length_take, List.length_drop] at *)
  · refine Leaf.mk (readO_vw.trans (congrArg some (?_ : _ = (compL xs).map some)))
    rw [compL_short (by omega)]
    refine (raw_take (Nat.le_refl _)).trans ?_
    rw [take_all (Nat.le_refl _)]
  have hrg : ∀ i, i < xs.length → (xs.map some ++ List.replicate k none).getD i none = some (xs.getD i []) := fun i h => raw_getD [] h
  refine LoopVC.on (fun n : Nat => [(3, .i .i64 n)]) (fun _ => []) (fun n => 1 ≤ n ∧ n ≤ xs.length ∧ compL (xs.take n) = xs.take n) (fun n => xs.length - n) 1 rfl ⟨by omega, by omega, compL_short (by rw [List.length_take]; omega)⟩ ?_
  intro n ⟨hn1, hn, he⟩
  repeat' (first | ((with_reducible refine Ev.mk ?_); conv => whnf) | (with_reducible refine And.intro ?_ ?_) | (intro h))
  all_goals (try simp only [decide_eq_true_eq, decide_eq_false_iff_not, beq_iff_eq, bne_iff_ne, beq_eq_false_iff_ne, bne_eq_false_iff_eq, Int.toNat_natCast, ge_iff_le, gt_iff_lt, Bool.not_eq_true', Bool.not_eq_false', Int.not_lt, Int.not_le, ne_eq] at *)
  all_goals (try dsimp only [Ty.den, Ty.dflt, .str] at *)
  all_goals (try simp only [eq4, ne4, eq3, ne3, eq2, ne2, Prod.eta, List.length_cons, List.length_nil, List.length_append, Nat.zero_add] at *)
  all_goals (try simp (disch := omega) only [wrap64] at *)
  all_goals (try simp only [Int.sub_zero, Int.toNat_natCast, Int.toNat_sub, Int.toNat_zero, Nat.zero_add, toNat_add', toNat_addsub, toNat_subadd, List.length_map, List.length_append, List.length_replicate, List.length_take, List.length_drop] at *)
  all_goals try rw [show ((n : Int) - 1).toNat = n - 1 by omega] at *
  all_goals try rw [hrg n (by omega), hrg (n - 1) (by omega)] at *
  all_goals try rw [hrg n (by omega)] at *
  all_goals try rw [hrg (n - 1) (by omega)] at *
  all_goals try first | exact leafDraw (by kernel_rfl) | exact Leaf.mk trivial | (refine Leaf.mk ?_; omega) | (refine Leaf.mk ?_; unfold maxLen; omega)
  all_goals try simp only [Option.getD_some] at *
  all_goals try exact Leaf.mk rfl
  rotate_left
  · refine Leaf.mk ⟨n + 1, rfl, ⟨by omega, by omega, ?_⟩, by omega⟩
    rw [compL_ne [] hn1 (by omega) h, he, take_at [] (by omega)]
  · refine Leaf.mk (readO_vw.trans (congrArg some (?_ : _ = (compL xs).map some)))
    rw [take_all (by omega)] at he
    rw [he]
    refine (raw_take (Nat.le_refl _)).trans ?_
    rw [take_all (Nat.le_refl _)]
  refine LoopVC.on (fun a : Nat × Nat × List (Option (List UInt8)) => [(3, .i .i64 a.1), (5, .i .i64 ((a.2.1 - n : Nat) : Int))]) (fun a => [(0, .raw 9 .str a.2.2)]) (fun a => n + 1 ≤ a.2.1 ∧ CF xs k a.2.2 a.1 a.2.1) (fun a => xs.length - a.2.1) (n, n + 1, xs.map some ++ List.replicate k none) ?_ ⟨Nat.le_refl _, CF.first [] hn1 (by omega) he h⟩ ?_
  · show _ = _
    rw [show n + 1 - n = 1 by omega]; rfl
  intro ⟨i, j, zs⟩ ⟨hj, q⟩
  dsimp only at hj q ⊢
  have hlt := q.lt
  have hle := q.le
  have hzl := q.len
  have hg1 := fun h => q.get [] (m := j) (by omega) h
  have hg2 := fun h => q.get [] (m := j - 1) (Nat.le_refl _) h
  repeat' (first | ((with_reducible refine Ev.mk ?_); conv => whnf) | (with_reducible refine And.intro ?_ ?_) | (intro h))
  all_goals (try simp only [decide_eq_true_eq, decide_eq_false_iff_not, beq_iff_eq, bne_iff_ne, beq_eq_false_iff_ne, bne_eq_false_iff_eq, Int.toNat_natCast, ge_iff_le, gt_iff_lt, Bool.not_eq_true', Bool.not_eq_false', Int.not_lt, Int.not_le, ne_eq] at *)
  all_goals (try dsimp only [Ty.den, Ty.dflt, .str] at *)
  all_goals (try simp only [eq4, ne4, eq3, ne3, eq2, ne2, Prod.eta, List.length_cons, List.length_nil, List.length_append, Nat.zero_add] at *)
  all_goals (try simp (disch := omega) only [wrap64] at *)
  all_goals (try simp only [Int.sub_zero, Int.toNat_natCast, Int.toNat_sub, Int.toNat_zero, Nat.zero_add, toNat_add', toNat_addsub, toNat_subadd, List.length_map, List.length_append, List.length_replicate, List.length_take, List.length_drop] at *)
  all_goals try rw [show n + (j - n) = j by omega] at *
  all_goals try rw [show n + (((j - n : Nat) : Int) - 1).toNat = j - 1 by omega] at *
  all_goals try rw [hg1 (by omega)] at *
  all_goals try rw [hg2 (by omega)] at *
  all_goals try simp only [Option.getD_some, Option.isSome_some] at *
  all_goals try first | exact leafDraw (by kernel_rfl) | exact Leaf.mk trivial | (refine Leaf.mk ?_; omega) | (refine Leaf.mk ?_; unfold maxLen; omega)
  all_goals try first
    | exact Leaf.mk rfl
    | (refine Leaf.mk ⟨(i + 1, j + 1, zs.set i (some (xs.getD j []))), ?_, ⟨by dsimp only; omega, q.new [] (by omega) ‹¬ _›⟩, by dsimp only; omega⟩
       dsimp only
       rw [show j + 1 - n = (j - n) + 1 by omega]; rfl)
    | (refine Leaf.mk ⟨(i, j + 1, zs), ?_, ⟨by dsimp only; omega, q.same [] (by omega) h⟩, by dsimp only; omega⟩
       dsimp only
       rw [show j + 1 - n = (j - n) + 1 by omega]; rfl)
  obtain rfl : j = xs.length := by omega
  refine Leaf.mk (readO_vw.trans (congrArg some (?_ : _ = (compL xs).map some)))
  change List.take (α := Option (List UInt8)) _ _ = _
  rw [List.append_assoc, List.take_append_of_le_length (by rw [List.length_take]; omega), List.take_take, Nat.min_self]
  exact q.fin
end Go.Proofs.YtkmfjlfejdoehaaGreat

set_option linter.unusedVariables false
set_option linter.unusedSimpArgs false
set_option maxRecDepth 8000
set_option maxHeartbeats 4000000
namespace Go.Proofs.YtkmfjlfejdoehaaGreat
open Go.Eng
abbrev MsgT : Ty := .pair (.int .u8) (.pair .str (.pair (.int .i64) (.pair (.int .i64) (.pair .bool .str))))
abbrev Msg := Int × List UInt8 × Int × Int × Bool × List UInt8
abbrev msg0 : Msg := (0, [], 0, 0, false, [])
abbrev FldT : Ty := .pair .bool (.pair .bool .bool)
def ofK (k : Int) : Bool × Bool × Bool := (decide (k = 0), decide (k = 0 ∨ k = 1 ∨ k = 2), decide (k = 1 ∨ k = 3))
def sOf : PSpec := ⟨[.d (.int .u8)], [⟨true, [.d FldT]⟩], fun _ => True, fun x => ((ofK x.1, ()), ())⟩
theorem fOf : FnOk Tryz.prog 126 := ⟨_, Tryz.func126, by decide, rfl⟩
theorem pOf : PSound Tryz.prog 126 sOf := by
  refine psound (T := tab) (S := (spOf [])) (keep := k126) (by kernel_rfl) tabOk spNil (by kernel_rfl) Tryz.func126 (by kernel_rfl) (by decide) fun xs hg hp => ?_
  obtain ⟨k, ⟨⟩⟩ := xs
  change Int at k
  show vfun tab _ k126 Tryz.f126 [.i .u8 k] [] _
  refine Ev.out ?_
  repeat' (first | ((with_reducible refine Ev.mk ?_); conv => whnf) | (with_reducible refine And.intro ?_ ?_) | (intro h))
  all_goals (try simp only [decide_eq_true_eq, decide_eq_false_iff_not, beq_iff_eq, bne_iff_ne, beq_eq_false_iff_ne, bne_eq_false_iff_eq, Int.toNat_natCast, ge_iff_le, gt_iff_lt, Bool.not_eq_true', Bool.not_eq_false', Int.not_lt, Int.not_le, ne_eq] at *)
  all_goals (try dsimp only [Ty.den, Ty.dflt, MsgT] at *)
  all_goals (try simp only [eq4, ne4, eq3, ne3, eq2, ne2, Prod.eta, List.length_cons, List.length_nil, List.length_append, Nat.zero_add] at *)
  all_goals (try simp (disch := omega) only [wrap64] at *)
  all_goals
    refine Leaf.mk (ret1 (show _ = ofK k from ?_))
    unfold ofK
    simp_all
def sMIn : PSpec := sIn
theorem fMIn : FnOk Tryz.prog 127 := ⟨_, Tryz.func127, by decide, rfl⟩
theorem pMIn : PSound Tryz.prog 127 sMIn := by
  refine psound (T := tab) (S := (spOf [])) (keep := k127) (by kernel_rfl) tabOk spNil (by kernel_rfl) Tryz.func127 (by kernel_rfl) (by decide) fun xs hg hp => ?_
  obtain ⟨n, ⟨⟩⟩ := xs
  change Int at n
  show vfun tab _ k127 Tryz.f127 [.i .i64 n] [] _
  refine Ev.out ?_
  repeat' (first | ((with_reducible refine Ev.mk ?_); conv => whnf) | (with_reducible refine And.intro ?_ ?_) | (intro h))
  all_goals (try simp only [decide_eq_true_eq, decide_eq_false_iff_not, beq_iff_eq, bne_iff_ne, beq_eq_false_iff_ne, bne_eq_false_iff_eq, Int.toNat_natCast, ge_iff_le, gt_iff_lt, Bool.not_eq_true', Bool.not_eq_false', Int.not_lt, Int.not_le, ne_eq] at *)
  all_goals (try dsimp only [Ty.den, Ty.dflt, VerT] at *)
  all_goals (try simp only [eq4, ne4, eq3, ne3, eq2, ne2, Prod.eta, List.length_cons, List.length_nil, List.length_append, Nat.zero_add] at *)
  all_goals (try simp (disch := omega) only [wrap64] at *)
  all_goals
    refine Leaf.mk (ret1 (show _ = inB n from ?_))
    simp only [inB]
    first
    | (rw [decide_eq_false (p := 0 ≤ n ∧ n ≤ 1099511627776) (by omega)]; done)
    | (congr 1; simp only [eq_iff_iff]; omega)
def mForm (m : Msg) : Prop := (m.1 = 0 ∨ (m.2.2.2.2.1 = false ∧ m.2.1.length = 0 ∧ m.2.2.2.2.2.length = 0)) ∧ (m.1 = 3 → m.2.2.1 = 0) ∧ (m.1 = 0 ∨ m.1 = 2 → m.2.2.2.1 = 0) ∧ (m.2.2.2.2.1 = false ∨ m.2.2.2.2.2.length = 0)
instance (m : Msg) : Decidable (mForm m) := by unfold mForm; infer_instance
def mcheck (m : Msg) : Int := if 3 < m.1 then 13 else if ¬ mForm m then 4 else if ¬ (inB m.2.2.1 = true ∧ inB m.2.2.2.1 = true) ∨ (m.1 = 1 ∧ m.2.2.2.1 = 0) then 9 else if 16 < m.2.1.length ∨ 24 < m.2.2.2.2.2.length then 5 else 0
def sMCheck : PSpec := ⟨[.d MsgT], [⟨false, [.d (.int .i64)]⟩], fun _ => True, fun x => ((mcheck x.1, ()), ())⟩
theorem fMCheck : FnOk Tryz.prog 65 := ⟨_, Tryz.func65, by decide, rfl⟩
theorem pMCheck : PSound Tryz.prog 65 sMCheck := by
  refine psound (T := tab) (S := (spOf [(126, sOf.spec (lsOf [])), (127, sMIn.spec (lsOf []))])) (keep := k65) (by kernel_rfl) tabOk (spCons (pOk pOf fOf (by decide) lsNil) (spCons (pOk pMIn fMIn (by decide) lsNil) spNil)) (by kernel_rfl) Tryz.func65 (by kernel_rfl) (by decide) fun xs hg hp => ?_
  obtain ⟨⟨kind, key, txn, ts, gone, val⟩, ⟨⟩⟩ := xs
  obtain ⟨⟨hk, hkl, htx, hts, -, hvl⟩, -⟩ := hg
  change List UInt8 at key
  change List UInt8 at val
  change Int at kind txn ts
  change Bool at gone
  change key.length ≤ _ at hkl
  change val.length ≤ _ at hvl
  have hkl := len63 hkl
  have hvl := len63 hvl
  have hk := bdu8 hk
  show vfun tab _ k65 Tryz.f65 [.agg [.i .u8 kind, .s key, .i .i64 txn, .i .i64 ts, .b gone, .s val]] [] _
  refine Ev.out ?_
  repeat' (first | ((with_reducible refine Ev.mk ?_); conv => whnf) | (with_reducible refine And.intro ?_ ?_) | (intro h))
  all_goals (try simp only [decide_eq_true_eq, decide_eq_false_iff_not, beq_iff_eq, bne_iff_ne, beq_eq_false_iff_ne, bne_eq_false_iff_eq, Int.toNat_natCast, ge_iff_le, gt_iff_lt, Bool.not_eq_true', Bool.not_eq_false', Int.not_lt, Int.not_le, ne_eq] at *)
  all_goals (try dsimp only [Ty.den, Ty.dflt, MsgT, sOf, ofK, sMIn, sIn] at *)
  all_goals (try simp only [eq4, ne4, eq3, ne3, eq2, ne2, Prod.eta, List.length_cons, List.length_nil, List.length_append, Nat.zero_add] at *)
  all_goals (try simp (disch := omega) only [wrap64] at *)
  all_goals try first | exact leafDraw (by kernel_rfl) | exact Leaf.mk trivial | (refine Leaf.mk ?_; omega) | (refine Leaf.mk ?_; unfold maxLen; omega)
  all_goals try simp only [← List.length_eq_zero_iff] at *
  all_goals try simp only [inB, decide_eq_true_eq, decide_eq_false_iff_not] at *
  all_goals
    refine Leaf.mk (ret1 (show (_ : Int) = mcheck (kind, key, txn, ts, gone, val) from ?_))
    simp only [mcheck, mForm, inB, decide_eq_true_eq]
    cases gone
  all_goals try simp only [reduceCtorEq, false_and, true_and, and_true, or_true, true_or, false_or, or_false, not_true_eq_false, not_false_eq_true] at *
  all_goals
    repeat' split
  all_goals first | rfl | (exfalso; omega)
def sMCheckR : PSpec := sMCheck
section
variable {α β γ δ ε ζ : Type} [BEq α] [LawfulBEq α] [BEq β] [LawfulBEq β] [BEq γ] [LawfulBEq γ] [BEq δ] [LawfulBEq δ] [BEq ε] [LawfulBEq ε] [BEq ζ] [LawfulBEq ζ]
end
end Go.Proofs.YtkmfjlfejdoehaaGreat

set_option linter.unusedVariables false
set_option linter.unusedSimpArgs false
set_option maxRecDepth 8000
set_option maxHeartbeats 4000000
namespace Go.Proofs.YtkmfjlfejdoehaaGreat
open Go.Eng
def wide (m : Msg) : Bool := decide (1 ≤ m.1 ∧ m.1 ≤ 3)
def sWide : PSpec := ⟨[.d MsgT], [⟨false, [.d .bool]⟩], fun _ => True, fun x => ((wide x.1, ()), ())⟩
def sWideR : PSpec := sWide
theorem fWide : FnOk Tryz.prog 108 := ⟨_, Tryz.func108, by decide, rfl⟩
theorem pWide : PSound Tryz.prog 108 sWide := by
  refine psound (T := tab) (S := (spOf [])) (keep := k108) (by kernel_rfl) tabOk spNil (by kernel_rfl) Tryz.func108 (by kernel_rfl) (by decide) fun xs hg hp => ?_
  obtain ⟨⟨kind, key, txn, ts, gone, val⟩, ⟨⟩⟩ := xs
  obtain ⟨⟨hk, -⟩, -⟩ := hg
  change List UInt8 at key
  change List UInt8 at val
  change Int at kind txn ts
  change Bool at gone
  have hk := bdu8 hk
  show vfun tab _ k108 Tryz.f108 [.agg [.i .u8 kind, .s key, .i .i64 txn, .i .i64 ts, .b gone, .s val]] [] _
  refine Ev.out ?_
  repeat' (first | ((with_reducible refine Ev.mk ?_); conv => whnf) | (with_reducible refine And.intro ?_ ?_) | (intro h))
  all_goals (try simp only [decide_eq_true_eq, decide_eq_false_iff_not, beq_iff_eq, bne_iff_ne, beq_eq_false_iff_ne, bne_eq_false_iff_eq, Int.toNat_natCast, ge_iff_le, gt_iff_lt, Bool.not_eq_true', Bool.not_eq_false', Int.not_lt, Int.not_le, ne_eq] at *)
  all_goals (try dsimp only [Ty.den, Ty.dflt, MsgT] at *)
  all_goals (try simp only [eq4, ne4, eq3, ne3, eq2, ne2, Prod.eta, List.length_cons, List.length_nil, List.length_append, Nat.zero_add] at *)
  all_goals (try simp (disch := omega) only [wrap64] at *)
  all_goals
    refine Leaf.mk (ret1 (show _ = wide (kind, key, txn, ts, gone, val) from ?_))
    unfold wide
    first
    | (rw [eq_comm, decide_eq_false_iff_not]; omega)
    | (rw [eq_comm, decide_eq_true_eq]; omega)
    | (congr 1; simp only [eq_iff_iff]; omega)
    | (rw [Bool.eq_iff_iff]; simp only [decide_eq_true_eq, beq_iff_eq]; omega)
def about (k : List UInt8) (m : Msg) : Bool := wide m || decide (m.1 = 0 ∧ m.2.1 = k)
def sAbout : PSpec := ⟨[.d MsgT, .d .str], [⟨false, [.d .bool]⟩], fun _ => True, fun x => ((about x.2.1 x.1, ()), ())⟩
def sAboutR : PSpec := sAbout
theorem fAbout : FnOk Tryz.prog 128 := ⟨_, Tryz.func128, by decide, rfl⟩
theorem pAbout : PSound Tryz.prog 128 sAbout := by
  refine psound (T := tab) (S := (spOf [(108, sWide.spec (lsOf []))])) (keep := k128) (by kernel_rfl) tabOk (spCons (pOk pWide fWide (by decide) lsNil) spNil) (by kernel_rfl) Tryz.func128 (by kernel_rfl) (by decide) fun xs hg hp => ?_
  obtain ⟨⟨kind, key, txn, ts, gone, val⟩, k, ⟨⟩⟩ := xs
  obtain ⟨⟨hk, -⟩, -⟩ := hg
  change List UInt8 at key
  change List UInt8 at val
  change Int at kind txn ts
  change Bool at gone
  have hk := bdu8 hk
  change List UInt8 at k
  show vfun tab _ k128 Tryz.f128 [.agg [.i .u8 kind, .s key, .i .i64 txn, .i .i64 ts, .b gone, .s val], .s k] [] _
  refine Ev.out ?_
  repeat' (first | ((with_reducible refine Ev.mk ?_); conv => whnf) | (with_reducible refine And.intro ?_ ?_) | (intro h))
  all_goals (try simp only [decide_eq_true_eq, decide_eq_false_iff_not, beq_iff_eq, bne_iff_ne, beq_eq_false_iff_ne, bne_eq_false_iff_eq, Int.toNat_natCast, ge_iff_le, gt_iff_lt, Bool.not_eq_true', Bool.not_eq_false', Int.not_lt, Int.not_le, ne_eq] at *)
  all_goals (try dsimp only [Ty.den, Ty.dflt, MsgT, sWide, sWideR] at *)
  all_goals (try simp only [eq4, ne4, eq3, ne3, eq2, ne2, Prod.eta, List.length_cons, List.length_nil, List.length_append, Nat.zero_add] at *)
  all_goals (try simp (disch := omega) only [wrap64] at *)
  all_goals try first | exact leafDraw (by kernel_rfl) | exact Leaf.mk trivial | (refine Leaf.mk ?_; omega) | (refine Leaf.mk ?_; unfold maxLen; omega)
  all_goals
    refine Leaf.mk (ret1 (show _ = about k (kind, key, txn, ts, gone, val) from ?_))
    unfold about
    dsimp only
    try rw [‹wide _ = false›]
    try rw [‹wide _ = true›]
    first
    | rfl
    | (rw [decide_eq_false (fun hc => by omega)]; rfl)
    | (rw [Bool.eq_iff_iff]; simp only [Bool.false_or, decide_eq_true_eq, beq_iff_eq]
       exact ⟨fun h => ⟨by assumption, h⟩, fun h => h.2⟩)
def applyM (s : Stk) (m : Msg) : Stk := if mcheck m = 0 ∧ about s.1 m = true then (if m.1 = 1 then commit s m.2.2.1 m.2.2.2.1 else if m.1 = 2 then abort s m.2.2.1 else if m.1 = 3 then prune s m.2.2.2.1 else write s (m.2.2.1, 0, m.2.2.2.2.1, m.2.2.2.2.2)) else s
def sApply : PSpec := ⟨[.d StT, .d MsgT], [⟨true, [.d StT]⟩], fun x => List.length x.1.2 ≤ 100000, fun x => ((applyM x.1 x.2.1, ()), ())⟩
theorem fApply : FnOk Tryz.prog 69 := ⟨_, Tryz.func69, by decide, rfl⟩
theorem pApply : PSound Tryz.prog 69 sApply := by
  refine psound (T := tab) (S := (spOf [(65, sMCheck.spec (lsOf [])), (128, sAbout.spec (lsOf [])), (129, sCloneV.spec (lsOf [])), (130, sCommit.spec (lsOf [])), (131, sAbort.spec (lsOf [])), (132, sPrune.spec (lsOf [])), (133, sWrite.spec (lsOf []))])) (keep := k69) (by kernel_rfl) tabOk (spCons (pOk pMCheck fMCheck (by decide) lsNil) (spCons (pOk pAbout fAbout (by decide) lsNil) (spCons (pOk pCloneV fCloneV (by decide) lsNil) (spCons (pOk pCommit fCommit (by decide) lsNil) (spCons (pOk pAbort fAbort (by decide) lsNil) (spCons (pOk pPrune fPrune (by decide) lsNil) (spCons (pOk pWrite fWrite (by decide) lsNil) spNil))))))) (by kernel_rfl) Tryz.func69 (by kernel_rfl) (by decide) fun xs hg hp => ?_
  obtain ⟨⟨skey, xs⟩, ⟨kind, key, txn, ts, gone, val⟩, ⟨⟩⟩ := xs
  obtain ⟨-, hg⟩ := hg
  obtain ⟨⟨hk, -⟩, -⟩ := hg
  change List UInt8 at key
  change List UInt8 at val
  change Int at kind txn ts
  change Bool at gone
  have hk := bdu8 hk
  change List UInt8 at skey
  change List Ver at xs
  change xs.length ≤ 100000 at hp
  show vfun tab _ k69 Tryz.f69 [.agg [.s skey, .sl VerT xs], .agg [.i .u8 kind, .s key, .i .i64 txn, .i .i64 ts, .b gone, .s val]] [] _
  refine Ev.out ?_
  repeat' (first | ((with_reducible refine Ev.mk ?_); conv => whnf) | (with_reducible refine And.intro ?_ ?_) | (intro h))
  all_goals (try simp only [decide_eq_true_eq, decide_eq_false_iff_not, beq_iff_eq, bne_iff_ne, beq_eq_false_iff_ne, bne_eq_false_iff_eq, Int.toNat_natCast, ge_iff_le, gt_iff_lt, Bool.not_eq_true', Bool.not_eq_false', Int.not_lt, Int.not_le, ne_eq] at *)
  all_goals (try dsimp only [Ty.den, Ty.dflt, MsgT, VerT, sMCheck, sAbout, sAboutR, sMCheckR] at *)
  all_goals (try simp only [eq4, ne4, eq3, ne3, eq2, ne2, Prod.eta, List.length_cons, List.length_nil, List.length_append, Nat.zero_add] at *)
  all_goals (try simp (disch := omega) only [wrap64] at *)
  all_goals try first | exact leafDraw (by kernel_rfl) | exact Leaf.mk trivial | (refine Leaf.mk ?_; omega) | (refine Leaf.mk ?_; unfold maxLen; omega)
  all_goals try first
    | exact Leaf.mk (show xs.length ≤ 100000 from hp)
    | exact Leaf.mk (show xs.length ≤ 1000000 by omega)
  all_goals
    refine Leaf.mk (ret1 (show (_ : Stk) = applyM (skey, xs) (kind, key, txn, ts, gone, val) from ?_))
    unfold applyM
    first
    | (refine Eq.trans ?_ (if_neg (fun hc => h hc.1)).symm; rfl)
    | (refine Eq.trans ?_ (if_neg (fun hc => Bool.noConfusion (hc.2.symm.trans h))).symm; rfl)
    | (refine Eq.trans ?_ (if_pos ⟨‹mcheck _ = 0›, ‹about _ _ = true›⟩).symm
       first
       | (refine Eq.trans ?_ (if_pos ‹kind = 1›).symm; rfl)
       | (refine Eq.trans ?_ (if_neg ‹¬ kind = 1›).symm
          first
          | (refine Eq.trans ?_ (if_pos ‹kind = 2›).symm; rfl)
          | (refine Eq.trans ?_ (if_neg ‹¬ kind = 2›).symm
             first
             | (refine Eq.trans ?_ (if_pos ‹kind = 3›).symm; rfl)
             | (refine Eq.trans ?_ (if_neg ‹¬ kind = 3›).symm; rfl))))
end Go.Proofs.YtkmfjlfejdoehaaGreat

set_option linter.unusedVariables false
set_option linter.unusedSimpArgs false
set_option maxRecDepth 8000
set_option maxHeartbeats 4000000
namespace Go.Proofs.YtkmfjlfejdoehaaGreat
open Go.Eng
theorem write_len' (s : Stk) (v : Ver) : (write s v).2.length ≤ s.2.length + 1 := by
  unfold write; repeat' split
  all_goals simp
theorem abort_len (s : Stk) (me : Int) : (abort s me).2.length ≤ s.2.length := List.length_filter_le _ _
theorem prune_len (s : Stk) (ts : Int) : (prune s ts).2.length ≤ s.2.length := keepN_le _ _ _ _
theorem commit_len (s : Stk) (me ts : Int) : (commit s me ts).2.length ≤ s.2.length + 1 := by
  unfold commit
  split
  · exact Nat.le_succ _
  · simp only [List.length_append, List.length_take, List.length_drop, List.length_singleton, cut]
    omega
theorem apply_len (s : Stk) (m : Msg) : (applyM s m).2.length ≤ s.2.length + 1 := by
  have h1 := write_len' s (m.2.2.1, 0, m.2.2.2.2.1, m.2.2.2.2.2)
  have h2 := abort_len s m.2.2.1
  have h3 := prune_len s m.2.2.2.1
  have h4 := commit_len s m.2.2.1 m.2.2.2.1
  unfold applyM
  repeat' split
  all_goals omega
def foldM (s : Stk) (l : List Msg) : Stk := l.foldl applyM s
theorem fold_len : ∀ (l : List Msg) (s : Stk), (foldM s l).2.length ≤ s.2.length + l.length
  | [], s => Nat.le_refl _
  | m :: l, s => by
    have h1 := apply_len s m
    have h2 := fold_len l (applyM s m)
    show (foldM (applyM s m) l).2.length ≤ _
    rw [List.length_cons]; omega
def sFold : PSpec := ⟨[.d StT, .d (.slice MsgT)], [⟨true, [.d StT]⟩], fun x => List.length x.1.2 + List.length x.2.1 ≤ 50000, fun x => ((foldM x.1 x.2.1, ()), ())⟩
theorem fFold : FnOk Tryz.prog 79 := ⟨_, Tryz.func79, by decide, rfl⟩
theorem pFold : PSound Tryz.prog 79 sFold := by
  refine psound (T := tab) (S := (spOf [(69, sApply.spec (lsOf []))])) (keep := k79) (by kernel_rfl) tabOk (spCons (pOk pApply fApply (by decide) lsNil) spNil) (by kernel_rfl) Tryz.func79 (by kernel_rfl) (by decide) fun xs hg hp => ?_
  obtain ⟨⟨skey, xs⟩, l, ⟨⟩⟩ := xs
  change List UInt8 at skey
  change List Ver at xs
  change List Msg at l
  change xs.length + l.length ≤ 50000 at hp
  clear hg
  show vfun tab _ k79 Tryz.f79 [.agg [.s skey, .sl VerT xs], .sl MsgT l] [] _
  refine Ev.out ?_
  repeat' (first | ((with_reducible refine Ev.mk ?_); conv => whnf) | (with_reducible refine And.intro ?_ ?_) | (intro h))
  all_goals (try simp only [decide_eq_true_eq, decide_eq_false_iff_not, beq_iff_eq, bne_iff_ne, beq_eq_false_iff_ne, bne_eq_false_iff_eq, Int.toNat_natCast, ge_iff_le, gt_iff_lt, Bool.not_eq_true', Bool.not_eq_false', Int.not_lt, Int.not_le, ne_eq] at *)
  all_goals (try dsimp only [Ty.den, Ty.dflt, VerT, MsgT] at *)
  all_goals (try simp only [eq4, ne4, eq3, ne3, eq2, ne2, Prod.eta, List.length_cons, List.length_nil, List.length_append, Nat.zero_add] at *)
  all_goals (try simp (disch := omega) only [wrap64] at *)
  all_goals try first | exact leafDraw (by kernel_rfl) | exact Leaf.mk trivial | (refine Leaf.mk ?_; omega) | (refine Leaf.mk ?_; unfold maxLen; omega)
  refine LoopVC.on (fun i : Nat => [(9, .i .i64 i)]) (fun i => [(0, .box [.s (foldM (skey, xs) (l.take i)).1, .sl VerT (foldM (skey, xs) (l.take i)).2])]) (fun i => i ≤ l.length) (fun i => l.length - i) 0 rfl (by omega) ?_
  intro i hi
  have hfl := fold_len (l.take i) (skey, xs)
  have htl : (l.take i).length ≤ i := by rw [List.length_take]; omega
  have hat : ∀ h : i < l.length, foldM (skey, xs) (l.take (i + 1)) = applyM (foldM (skey, xs) (l.take i)) (l.getD i msg0) := fun h => foldl_at msg0 h
  generalize hS : foldM (skey, xs) (l.take i) = S at *
  repeat' (first | ((with_reducible refine Ev.mk ?_); conv => whnf) | (with_reducible refine And.intro ?_ ?_) | (intro h))
  all_goals (try simp only [decide_eq_true_eq, decide_eq_false_iff_not, beq_iff_eq, bne_iff_ne, beq_eq_false_iff_ne, bne_eq_false_iff_eq, Int.toNat_natCast, ge_iff_le, gt_iff_lt, Bool.not_eq_true', Bool.not_eq_false', Int.not_lt, Int.not_le, ne_eq] at *)
  all_goals (try dsimp only [Ty.den, Ty.dflt, VerT, MsgT] at *)
  all_goals (try simp only [eq4, ne4, eq3, ne3, eq2, ne2, Prod.eta, List.length_cons, List.length_nil, List.length_append, Nat.zero_add] at *)
  all_goals (try simp (disch := omega) only [wrap64] at *)
  all_goals try first | exact leafDraw (by kernel_rfl) | exact Leaf.mk trivial | (refine Leaf.mk ?_; omega) | (refine Leaf.mk ?_; unfold maxLen; omega)
  all_goals first
    | exact Leaf.mk (show S.2.length ≤ 100000 by omega)
    | (refine Leaf.mk ⟨i + 1, ?_, by omega, by omega⟩
       rw [hat (by omega)]; rfl)
    | (refine Leaf.mk (ret1 (show (S.1, S.2) = foldM (skey, xs) l from ?_))
       rw [← hS, take_all (by omega)])
end Go.Proofs.YtkmfjlfejdoehaaGreat

set_option linter.unusedVariables false
set_option linter.unusedSimpArgs false
set_option maxRecDepth 8000
set_option maxHeartbeats 4000000
namespace Go.Proofs.YtkmfjlfejdoehaaGreat
open Go.Eng
abbrev MsT : Ty := .slice MsgT
def flN (p : Msg → Bool) (l : List Msg) (i : Nat) : List Msg := (l.take i).filter p
theorem flN_len (p : Msg → Bool) (l : List Msg) (i : Nat) : (flN p l i).length ≤ i := length_filter_take
theorem flN_in {p : Msg → Bool} {l : List Msg} {i : Nat} (h : i < l.length) (hr : p (l.getD i msg0) = true) : flN p l (i + 1) = flN p l i ++ [l.getD i msg0] := by
  rw [flN, filter_at msg0 h, if_pos hr]; rfl
theorem flN_out {p : Msg → Bool} {l : List Msg} {i : Nat} (h : i < l.length) (hr : p (l.getD i msg0) = false) : flN p l (i + 1) = flN p l i := by
  rw [flN, filter_at msg0 h, if_neg (by rw [hr]; simp), List.append_nil]; rfl
def withinK (lo hi k : List UInt8) : Bool := !sless k lo && ((hi == []) || sless k hi)
def wrP (lo hi : List UInt8) (m : Msg) : Bool := (m.1 == 0) && withinK lo hi m.2.1
end Go.Proofs.YtkmfjlfejdoehaaGreat

set_option linter.unusedVariables false
set_option linter.unusedSimpArgs false
set_option maxRecDepth 8000
set_option maxHeartbeats 4000000
namespace Go.Proofs.YtkmfjlfejdoehaaGreat
open Go.Eng
theorem fKeys1i : FnOk Tryz.prog 141 := ⟨_, Tryz.func141, by decide, rfl⟩
noncomputable def iKeys1i : Eng.Spec := inl tab (spOf []) k141 Tryz.f141
theorem pKeys1i : SpecOk Tryz.prog 141 iKeys1i := inl_ok tabOk spNil (by kernel_rfl) Tryz.func141 (by kernel_rfl)
theorem fPickedK : FnOk Tryz.prog 140 := ⟨_, Tryz.func140, by decide, rfl⟩
noncomputable def iPickedK : Eng.Spec := inl tab (spOf [(141, iKeys1i)]) k140 Tryz.f140
theorem pPickedK : SpecOk Tryz.prog 140 iPickedK := inl_ok tabOk (spCons (.inl ⟨pKeys1i, fKeys1i⟩) spNil) (by kernel_rfl) Tryz.func140 (by kernel_rfl)
def kyN (fs : List Msg) (j : Nat) : List (List UInt8) := (fs.take j).map (·.2.1)
theorem kyN_len (fs : List Msg) (j : Nat) : (kyN fs j).length ≤ j := by rw [kyN, List.length_map, List.length_take]; omega
theorem kyN_at {fs : List Msg} {j : Nat} (h : j < fs.length) : kyN fs (j + 1) = kyN fs j ++ [(fs.getD j msg0).2.1] := map_at msg0 h
def keysL (lo hi : List UInt8) (l : List Msg) : List (List UInt8) := (l.filter (wrP lo hi)).map (·.2.1)
def keysF (lo hi : List UInt8) (l : List Msg) : List (List UInt8) := (keysL lo hi l).foldl addK []
def sKeys : PSpec := ⟨[.d MsT, .d .str, .d .str], [⟨false, [.d (.slice .str)]⟩], fun x => List.length x.1 ≤ 100000, fun x => ((keysF x.2.1 x.2.2.1 x.1, ()), ())⟩
theorem fKeys : FnOk Tryz.prog 74 := ⟨_, Tryz.func74, by decide, rfl⟩
theorem pKeys : PSound Tryz.prog 74 sKeys := by
  refine psound (T := tab) (S := (spOf [(140, iPickedK), (141, iKeys1i), (142, iSort), (143, sCompact.spec)])) (keep := k74) (by kernel_rfl) tabOk (spCons (.inl ⟨pPickedK, fPickedK⟩) (spCons (.inl ⟨pKeys1i, fKeys1i⟩) (spCons (.inl ⟨pSort, fSort⟩) (spCons (.inl ⟨pCompact, fCompact⟩) spNil)))) (by kernel_rfl) Tryz.func74 (by kernel_rfl) (by decide) fun xs hg hp => ?_
  obtain ⟨l, lo, hi, ⟨⟩⟩ := xs
  change List Msg at l
  change List UInt8 at lo hi
  change l.length ≤ 100000 at hp
  clear hg
  show vfun tab _ k74 Tryz.f74 [.sl MsgT l, .s lo, .s hi] [] _
  refine Ev.out ?_
  repeat' (first | ((with_reducible refine Ev.mk ?_); conv => whnf) | (with_reducible refine And.intro ?_ ?_) | (intro h))
  all_goals (try simp only [decide_eq_true_eq, decide_eq_false_iff_not, beq_iff_eq, bne_iff_ne, beq_eq_false_iff_ne, bne_eq_false_iff_eq, Int.toNat_natCast, ge_iff_le, gt_iff_lt, Bool.not_eq_true', Bool.not_eq_false', Int.not_lt, Int.not_le, ne_eq] at *)
  all_goals (try dsimp only [Ty.den, Ty.dflt, MsgT] at *)
  all_goals (try simp only [eq4, ne4, eq3, ne3, eq2, ne2, Prod.eta, List.length_cons, List.length_nil, List.length_append, Nat.zero_add] at *)
  all_goals (try simp (disch := omega) only [wrap64] at *)
  all_goals try first | exact leafDraw (by kernel_rfl) | exact Leaf.mk trivial | (refine Leaf.mk ?_; omega) | (refine Leaf.mk ?_; unfold maxLen; omega)
  refine LoopVC.weak [(.slot 5, .nil 34 MsgT)] (fun i : Nat => [(10, .i .i64 i)]) (fun i => [(18, .arr 34 MsgT (flN (wrP lo hi) l i))]) (fun i => i ≤ l.length) (fun i => l.length - i) 0 (Ev.mk ?_)
  (conv => whnf)
  refine ⟨Leaf.mk rfl, Leaf.mk ?_, ?_⟩
  · omega
  intro i hii
  have hfl := flN_len (wrP lo hi) l i
  repeat' (first | ((with_reducible refine Ev.mk ?_); conv => whnf) | (with_reducible refine And.intro ?_ ?_) | (intro h))
  all_goals (try simp only [decide_eq_true_eq, decide_eq_false_iff_not, beq_iff_eq, bne_iff_ne, beq_eq_false_iff_ne, bne_eq_false_iff_eq, Int.toNat_natCast, ge_iff_le, gt_iff_lt, Bool.not_eq_true', Bool.not_eq_false', Int.not_lt, Int.not_le, ne_eq] at *)
  all_goals (try dsimp only [Ty.den, Ty.dflt, MsgT, sAboutR, sAbout] at *)
  all_goals (try simp only [eq4, ne4, eq3, ne3, eq2, ne2, Prod.eta, List.length_cons, List.length_nil, List.length_append, Nat.zero_add] at *)
  all_goals (try simp (disch := omega) only [wrap64] at *)
  all_goals try first | exact leafDraw (by kernel_rfl) | exact Leaf.mk trivial | (refine Leaf.mk ?_; omega) | (refine Leaf.mk ?_; unfold maxLen; omega)
  all_goals try first
    | exact Leaf.mk trivial
    | (refine Leaf.mk ?_; omega)
    | (refine Leaf.mk ?_; unfold maxLen; omega)
  all_goals try
    have hat := fun b hb => flN_in (p := wrP lo hi) (l := l) (i := i) b hb
    have hao := fun b hb => flN_out (p := wrP lo hi) (l := l) (i := i) b hb
    generalize l.getD i msg0 = m at *
    first
    | (refine Leaf.mk ⟨i + 1, ?_, by omega, by omega⟩
       rw [hat (by omega) (by simp only [wrP, withinK, Bool.and_eq_true, Bool.or_eq_true, beq_iff_eq, Bool.not_eq_true']; exact ⟨‹_›, ‹_›, by first | exact .inl ‹_› | exact .inr ‹_›⟩)]; rfl)
    | (refine Leaf.mk ⟨i + 1, ?_, by omega, by omega⟩
       rw [hao (by omega) (by simp_all [wrP, withinK])]; rfl)
  have hil : i = l.length := by omega
  subst hil
  have hK : flN (wrP lo hi) l l.length = l.filter (wrP lo hi) := by rw [flN, take_all (Nat.le_refl _)]
  rw [hK] at *
  clear hK
  have hKl : keysL lo hi l = (l.filter (wrP lo hi)).map (·.2.1) := rfl
  have hfl : (l.filter (wrP lo hi)).length ≤ l.length := List.length_filter_le _ _
  generalize l.filter (wrP lo hi) = fs at *
  refine LoopVC.weak [(.slot 12, .frz), (.slot 7, .nil 9 .str)] (fun j : Nat => [(14, .i .i64 j)]) (fun j => [(0, .arr 9 .str (kyN fs j))]) (fun j => j ≤ fs.length) (fun j => fs.length - j) 0 (Ev.mk ?_)
  (conv => whnf)
  refine ⟨Leaf.mk ?_, Leaf.mk ?_, ?_⟩
  · rfl
  · omega
  intro j hj
  have hml := kyN_len fs j
  have hsl := sortStr_len (kyN fs j)
  repeat' (first | ((with_reducible refine Ev.mk ?_); conv => whnf) | (with_reducible refine And.intro ?_ ?_) | (intro h))
  all_goals (try simp only [decide_eq_true_eq, decide_eq_false_iff_not, beq_iff_eq, bne_iff_ne, beq_eq_false_iff_ne, bne_eq_false_iff_eq, Int.toNat_natCast, ge_iff_le, gt_iff_lt, Bool.not_eq_true', Bool.not_eq_false', Int.not_lt, Int.not_le, ne_eq] at *)
  all_goals (try dsimp only [Ty.den, Ty.dflt, MsgT] at *)
  all_goals (try simp only [eq4, ne4, eq3, ne3, eq2, ne2, Prod.eta, List.length_cons, List.length_nil, List.length_append, Nat.zero_add] at *)
  all_goals (try simp (disch := omega) only [wrap64] at *)
  all_goals try first | exact leafDraw (by kernel_rfl) | exact Leaf.mk trivial | (refine Leaf.mk ?_; omega) | (refine Leaf.mk ?_; unfold maxLen; omega)
  all_goals first
    | (refine Leaf.mk ?_; omega)
    | (refine Leaf.mk ?_; unfold maxLen; omega)
    | exact Leaf.mk (show (sortStr (kyN fs j)).length ≤ 1000000 by omega)
    | (refine Leaf.mk ⟨j + 1, ?_, by omega, by omega⟩
       first
       | (rw [kyN_at (by omega), wrap64 (by omega)]; rfl; done)
       | (rw [kyN_at (by omega)]; rfl))
    | (refine Leaf.mk (ret1 (show compL (sortStr (kyN fs j)) = keysF lo hi l from ?_))
       rw [keysF, sortU_fold, sortU, hKl, kyN, take_all (by omega)])
end Go.Proofs.YtkmfjlfejdoehaaGreat

set_option linter.unusedVariables false
set_option linter.unusedSimpArgs false
set_option maxRecDepth 8000
set_option maxHeartbeats 4000000
namespace Go.Proofs.YtkmfjlfejdoehaaGreat
open Go.Eng
set_option synthInstance.maxHeartbeats 400000
instance decM1 : DecidableEq (Bool × List UInt8) := inferInstance
instance decM2 : DecidableEq (Int × Bool × List UInt8) := inferInstance
instance decM3 : DecidableEq (Int × Int × Bool × List UInt8) := inferInstance
instance decM4 : DecidableEq (List UInt8 × Int × Int × Bool × List UInt8) := inferInstance
instance decMsg : DecidableEq Msg := inferInstanceAs (DecidableEq (Int × List UInt8 × Int × Int × Bool × List UInt8))
end Go.Proofs.YtkmfjlfejdoehaaGreat

set_option linter.unusedVariables false
set_option linter.unusedSimpArgs false
set_option maxRecDepth 8000
set_option maxHeartbeats 4000000
namespace Go.Proofs.YtkmfjlfejdoehaaGreat
open Go.Eng
def keyIs (k : List UInt8) (s : Stk) : Bool := s.1 == k
def lLPlace1 : LSpec := ⟨StT, .bool, [.bx .str], fun s c => keyIs c.1 s⟩
theorem fLPlace1 : FnOk Tryz.prog 149 := ⟨_, Tryz.func149, by decide, rfl⟩
theorem pLPlace1 : PSound Tryz.prog 149 lLPlace1.p := by
  refine psound (T := tab) (S := (spOf [])) (keep := k149) (by kernel_rfl) tabOk spNil (by kernel_rfl) Tryz.func149 (by kernel_rfl) (by decide) fun xs hg hp => ?_
  obtain ⟨⟨key, xs⟩, k, ⟨⟩⟩ := xs
  show vfun tab _ k149 Tryz.f149 [.agg [.s key, .sl VerT xs], .rp [.s k]] [] _
  refine Ev.out ?_
  repeat' (first | ((with_reducible refine Ev.mk ?_); conv => whnf) | (with_reducible refine And.intro ?_ ?_) | (intro h))
  all_goals exact Leaf.mk rfl
def plL (l : List Stk) (k : List UInt8) : Int := idxF (keyIs k) l 0
def sLPlace : PSpec := ⟨[.d SsT, .d .str], [⟨false, [.d (.int .i64)]⟩], fun _ => True, fun x => ((plL x.1 x.2.1, ()), ())⟩
theorem fLPlace : FnOk Tryz.prog 82 := ⟨_, Tryz.func82, by decide, rfl⟩
theorem pLPlace : PSound Tryz.prog 82 sLPlace := by
  refine psound (T := tab) (S := (spOf [(148, sIndexFuncT.spec (lsOf [(149, lLPlace1)]))])) (keep := k82) (by kernel_rfl) tabOk (spCons (pOk pIndexFuncT fIndexFuncT (by decide) ((lsCons ⟨pLPlace1, fLPlace1⟩ lsNil))) spNil) (by kernel_rfl) Tryz.func82 (by kernel_rfl) (by decide) fun xs hg hp => ?_
  obtain ⟨l, k, ⟨⟩⟩ := xs
  change List Stk at l
  change List UInt8 at k
  show vfun tab _ k82 Tryz.f82 [.sl StT l, .s k] [] _
  refine Ev.out ?_
  repeat' (first | ((with_reducible refine Ev.mk ?_); conv => whnf) | (with_reducible refine And.intro ?_ ?_) | (intro h))
  all_goals first | exact Leaf.mk trivial | exact Leaf.mk rfl
def findF (l : List Stk) (k : List UInt8) : Stk × Bool := if plL l k < 0 then ((k, []), false) else (l.getD (plL l k).toNat ([], []), true)
theorem retF {u v : Stk × Bool} (h : u = v) : (some ((u.1, ()), (u.2, ()), ()) : Option ((Stk × Unit) × (Bool × Unit) × Unit)) = some ((v.1, ()), (v.2, ()), ()) := by rw [h]
def sLFind : PSpec := ⟨[.st SsT, .d .str], [⟨true, [.d StT]⟩, ⟨false, [.d .bool]⟩], fun _ => True, fun x => (((findF x.1 x.2.1).1, ()), ((findF x.1 x.2.1).2, ()), ())⟩
theorem fLFind : FnOk Tryz.prog 19 := ⟨_, Tryz.func19, by decide, rfl⟩
theorem pLFind : PSound Tryz.prog 19 sLFind := by
  refine psound (T := tab) (S := (spOf [(82, sLPlace.spec (lsOf []))])) (keep := k19) (by kernel_rfl) tabOk (spCons (pOk pLPlace fLPlace (by decide) lsNil) spNil) (by kernel_rfl) Tryz.func19 (by kernel_rfl) (by decide) fun xs hg hp => ?_
  obtain ⟨l, k, ⟨⟩⟩ := xs
  change List Stk at l
  change List UInt8 at k
  have hz := idxF_pos (keyIs k) l 0
  rw [show idxF (keyIs k) l 0 = plL l k from rfl] at hz
  show vfun tab _ k19 Tryz.f19 [.agg [.sl StT l], .s k] [] _
  refine Ev.out ?_
  repeat' (first | ((with_reducible refine Ev.mk ?_); conv => whnf) | (with_reducible refine And.intro ?_ ?_) | (intro h))
  all_goals (try simp only [decide_eq_true_eq, decide_eq_false_iff_not, beq_iff_eq, bne_iff_ne, beq_eq_false_iff_ne, bne_eq_false_iff_eq, Int.toNat_natCast, ge_iff_le, gt_iff_lt, Bool.not_eq_true', Bool.not_eq_false', Int.not_lt, Int.not_le, ne_eq] at *)
  all_goals (try dsimp only [Ty.den, Ty.dflt, StT, sLPlace] at *)
  all_goals (try simp only [eq4, ne4, eq3, ne3, eq2, ne2, Prod.eta, List.length_cons, List.length_nil, List.length_append, Nat.zero_add] at *)
  all_goals (try simp (disch := omega) only [wrap64] at *)
  all_goals try first | exact leafDraw (by kernel_rfl) | exact Leaf.mk trivial | (refine Leaf.mk ?_; omega) | (refine Leaf.mk ?_; unfold maxLen; omega)
  all_goals first
    | (refine Leaf.mk ?_; omega)
    | (refine Leaf.mk (retF (u := ((k, []), false)) (v := findF l k) ?_)
       rw [findF, if_pos (by assumption)])
    | (refine Leaf.mk (retF (u := (((l.getD (plL l k).toNat stk0).1, (l.getD (plL l k).toNat stk0).2), true)) (v := findF l k) ?_)
       rw [findF, if_neg (by omega)])
def inR (lo hi : List UInt8) (s : Stk) : Bool := withinK lo hi s.1
def fsN (p : Stk → Bool) (l : List Stk) (i : Nat) : List Stk := (l.take i).filter p
theorem fsN_len (p : Stk → Bool) (l : List Stk) (i : Nat) : (fsN p l i).length ≤ i := length_filter_take
theorem fsN_in {p : Stk → Bool} {l : List Stk} {i : Nat} (h : i < l.length) (hr : p (l.getD i stk0) = true) : fsN p l (i + 1) = fsN p l i ++ [l.getD i stk0] := by
  rw [fsN, filter_at stk0 h, if_pos hr]; rfl
theorem fsN_out {p : Stk → Bool} {l : List Stk} {i : Nat} (h : i < l.length) (hr : p (l.getD i stk0) = false) : fsN p l (i + 1) = fsN p l i := by
  rw [fsN, filter_at stk0 h, if_neg (by rw [hr]; simp), List.append_nil]; rfl
def sLRange : PSpec := ⟨[.st SsT, .d .str, .d .str], [⟨false, [.o 38 StT]⟩], fun x => List.length x.1 ≤ 100000, fun x => ((List.filter (α := Stk) (inR x.2.1 x.2.2.1) x.1, ()), ())⟩
theorem fLRange : FnOk Tryz.prog 22 := ⟨_, Tryz.func22, by decide, rfl⟩
theorem pLRange : PSound Tryz.prog 22 sLRange := by
  refine psound (T := tab) (S := (spOf [])) (keep := k22) (by kernel_rfl) tabOk spNil (by kernel_rfl) Tryz.func22 (by kernel_rfl) (by decide) fun xs hg hp => ?_
  obtain ⟨l, lo, hi, ⟨⟩⟩ := xs
  change List Stk at l
  change List UInt8 at lo hi
  change l.length ≤ 100000 at hp
  clear hg
  show vfun tab _ k22 Tryz.f22 [.agg [.sl StT l], .s lo, .s hi] [] _
  refine Ev.out ?_
  repeat' (first | ((with_reducible refine Ev.mk ?_); conv => whnf) | (with_reducible refine And.intro ?_ ?_) | (intro h))
  all_goals (try simp only [decide_eq_true_eq, decide_eq_false_iff_not, beq_iff_eq, bne_iff_ne, beq_eq_false_iff_ne, bne_eq_false_iff_eq, Int.toNat_natCast, ge_iff_le, gt_iff_lt, Bool.not_eq_true', Bool.not_eq_false', Int.not_lt, Int.not_le, ne_eq] at *)
  all_goals (try dsimp only [Ty.den, Ty.dflt, StT] at *)
  all_goals (try simp only [eq4, ne4, eq3, ne3, eq2, ne2, Prod.eta, List.length_cons, List.length_nil, List.length_append, Nat.zero_add] at *)
  all_goals (try simp (disch := omega) only [wrap64] at *)
  all_goals try first | exact leafDraw (by kernel_rfl) | exact Leaf.mk trivial | (refine Leaf.mk ?_; omega) | (refine Leaf.mk ?_; unfold maxLen; omega)
  refine LoopVC.weak [(.slot 7, .nil 38 StT)] (fun i : Nat => [(13, .i .i64 i)]) (fun i => [(0, .arr 38 StT (fsN (inR lo hi) l i))]) (fun i => i ≤ l.length) (fun i => l.length - i) 0 (Ev.mk ?_)
  (conv => whnf)
  refine ⟨Leaf.mk rfl, Leaf.mk ?_, ?_⟩
  · omega
  intro i hii
  have hfl := fsN_len (inR lo hi) l i
  repeat' (first | ((with_reducible refine Ev.mk ?_); conv => whnf) | (with_reducible refine And.intro ?_ ?_) | (intro h))
  all_goals (try simp only [decide_eq_true_eq, decide_eq_false_iff_not, beq_iff_eq, bne_iff_ne, beq_eq_false_iff_ne, bne_eq_false_iff_eq, Int.toNat_natCast, ge_iff_le, gt_iff_lt, Bool.not_eq_true', Bool.not_eq_false', Int.not_lt, Int.not_le, ne_eq] at *)
  all_goals (try dsimp only [Ty.den, Ty.dflt, StT] at *)
  all_goals (try simp only [eq4, ne4, eq3, ne3, eq2, ne2, Prod.eta, List.length_cons, List.length_nil, List.length_append, Nat.zero_add] at *)
  all_goals (try simp (disch := omega) only [wrap64] at *)
  all_goals try first | exact leafDraw (by kernel_rfl) | exact Leaf.mk trivial | (refine Leaf.mk ?_; omega) | (refine Leaf.mk ?_; unfold maxLen; omega)
  all_goals first
    | (refine Leaf.mk ?_; omega)
    | (refine Leaf.mk ?_; unfold maxLen; omega)
    | (refine Leaf.mk ⟨i + 1, ?_, by omega, by omega⟩
       first
       | (rw [fsN_in (by omega) (by simp only [inR, withinK, Bool.and_eq_true, Bool.or_eq_true, beq_iff_eq, Bool.not_eq_true']; exact ⟨‹_›, by first | exact .inl ‹_› | exact .inr ‹_›⟩)]; rfl)
       | (rw [fsN_in (by omega) ‹withinK _ _ _ = true›]; rfl)
       | (rw [fsN_out (by omega) ‹withinK _ _ _ = false›]; rfl)
       | (rw [fsN_out (by omega) (by simp_all [inR, withinK])]; rfl))
    | (refine Leaf.mk (ret1 (show fsN (inR lo hi) l i = l.filter (inR lo hi) from ?_))
       rw [fsN, take_all (by omega)])
theorem pOverlapsT : XOk Tryz.prog 145 xOverlaps := xOverlaps_ok tabOk Tryz.func145 (by kernel_rfl) (by kernel_rfl) (by kernel_rfl) (by kernel_rfl) (t := 22) rfl rfl (by rfl)
def sInsertT : OSpec := ⟨38, StT, [.d (.int .i64), .o 38 StT], fun xs y => 0 ≤ y.1 ∧ y.1 ≤ (xs.length : Int) ∧ xs.length + List.length y.2.1 ≤ 1000000, fun xs y => xs.take y.1.toNat ++ (y.2.1 ++ xs.drop y.1.toNat)⟩
theorem fInsertT : FnOk Tryz.prog 77 := ⟨_, Tryz.func77, by decide, rfl⟩
theorem pInsertT : SpecOk Tryz.prog 77 sInsertT.spec := by
  refine oOk (T := tab) (S := (spOf [(145, xOverlaps)])) (keep := k77) (by kernel_rfl) tabOk (spCons (.inr pOverlapsT) spNil) (by kernel_rfl) Tryz.func77 (by kernel_rfl) (by decide) (by decide) fun xs ys k hg hgt hmax hp => ?_
  obtain ⟨i, vs, ⟨⟩⟩ := ys
  change List Stk at xs
  change List Stk at vs
  change Int at i
  change 0 ≤ i ∧ i ≤ (xs.length : Int) ∧ xs.length + vs.length ≤ 1000000 at hp
  clear hg hgt
  obtain ⟨i, rfl⟩ := Int.eq_ofNat_of_zero_le hp.1
  show vfun tab _ k77 Tryz.f77 [.vw 0 StT 0 xs.length true, .i .i64 i, .own 1] [(0, .raw 38 StT (xs.map some ++ List.replicate k (none : Option (Ty.den StT)))), (1, .arr 38 StT vs)] _
  refine Ev.out ?_
  repeat' (first | ((with_reducible refine Ev.mk ?_); conv => whnf) | (with_reducible refine And.intro ?_ ?_) | (intro h))
  all_goals (try simp only [decide_eq_true_eq, decide_eq_false_iff_not, beq_iff_eq, bne_iff_ne, beq_eq_false_iff_ne, bne_eq_false_iff_eq, Int.toNat_natCast, ge_iff_le, gt_iff_lt, Bool.not_eq_true', Bool.not_eq_false', Int.not_lt, Int.not_le, ne_eq] at *)
  all_goals (try dsimp only [Ty.den, Ty.dflt, StT] at *)
  all_goals (try simp only [eq4, ne4, eq3, ne3, eq2, ne2, Prod.eta, List.length_cons, List.length_nil, List.length_append, Nat.zero_add] at *)
  all_goals (try simp (disch := omega) only [wrap64] at *)
  all_goals (try simp only [Int.sub_zero, Int.toNat_natCast, Int.toNat_sub, Int.toNat_zero, Nat.zero_add, toNat_add', toNat_addsub, toNat_subadd, List.length_map, List.length_append, List.length_replicate, List.length_take, List.length_drop] at *)
  all_goals first | omega | skip
  all_goals try first | exact leafDraw (by kernel_rfl) | exact Leaf.mk trivial | (refine Leaf.mk ?_; omega) | (refine Leaf.mk ?_; unfold maxLen; omega)
  all_goals first
    | (refine Leaf.mk ?_; unfold maxLen at *; omega)
    | skip
  · refine Leaf.mk (readO_vw.trans (congrArg some (?_ : _ = (xs.take i ++ (vs ++ xs.drop i)).map some)))
    obtain rfl : vs = [] := List.eq_nil_of_length_eq_zero (by omega)
    change ((xs.map some ++ List.replicate k none).take _) = _
    rw [raw_take (by omega)]
    simp
  · refine Leaf.mk (readO_vw.trans (congrArg some (?_ : _ = (xs.take i ++ (vs ++ xs.drop i)).map some)))
    obtain rfl : i = xs.length := by omega
    change (List.take (α := Option Stk) _ _) = _
    rw [raw_take (by omega), tk3 (by simp)]
    simp
  · refine Leaf.mk (readO_vw.trans (congrArg some (?_ : _ = (xs.take i ++ (vs ++ xs.drop i)).map some)))
    obtain rfl : i = xs.length := by omega
    change (List.take (α := Option Stk) _ _) = _
    rw [raw_take (by omega), tk3 (by simp)]
    simp
  · refine Leaf.mk (?_ : (List.take _ (List.drop _ (xs.map some ++ List.replicate k none))).all Option.isSome = true); rw [raw_cut (by omega)]; exact raw_all
  · exact Leaf.mk (readO_vw.trans (congrArg some (ins_new (by omega) (by omega) (by omega))))
  · refine Leaf.mk (?_ : (List.take _ (List.drop _ (xs.map some ++ List.replicate k none))).all Option.isSome = true); rw [raw_cut (by omega)]; exact raw_all
  · exact Leaf.mk (readO_vw.trans (congrArg some (ins_in (by omega) (by omega))))
def lastL (k : List UInt8) (l : List Stk) : Nat → Nat
  | 0 => 0
  | i + 1 => if sless (l.getD i stk0).1 k = true then i + 1 else lastL k l i
theorem lastL_le (k : List UInt8) (l : List Stk) : ∀ i, lastL k l i ≤ i
  | 0 => Nat.le_refl _
  | i + 1 => by
    have := lastL_le k l i
    rw [lastL]; split <;> omega
def withF (l : List Stk) (k : List UInt8) : List Stk := if plL l k < 0 then l.take (lastL k l l.length) ++ (k, []) :: l.drop (lastL k l l.length) else l
def sLWith : PSpec := ⟨[.d SsT, .d .str], [⟨false, [.d SsT]⟩], fun x => List.length x.1 ≤ 100000, fun x => ((withF x.1 x.2.1, ()), ())⟩
theorem fLWith : FnOk Tryz.prog 66 := ⟨_, Tryz.func66, by decide, rfl⟩
theorem pLWith : PSound Tryz.prog 66 sLWith := by
  refine psound (T := tab) (S := (spOf [(82, sLPlace.spec (lsOf [])), (92, sCloneT.spec (lsOf [])), (77, sInsertT.spec)])) (keep := k66) (by kernel_rfl) tabOk (spCons (pOk pLPlace fLPlace (by decide) lsNil) (spCons (pOk pCloneT fCloneT (by decide) lsNil) (spCons (.inl ⟨pInsertT, fInsertT⟩) spNil))) (by kernel_rfl) Tryz.func66 (by kernel_rfl) (by decide) fun xs hg hp => ?_
  obtain ⟨l, k, ⟨⟩⟩ := xs
  change List Stk at l
  change List UInt8 at k
  change l.length ≤ 100000 at hp
  clear hg
  show vfun tab _ k66 Tryz.f66 [.sl StT l, .s k] [] _
  refine Ev.out ?_
  repeat' (first | ((with_reducible refine Ev.mk ?_); conv => whnf) | (with_reducible refine And.intro ?_ ?_) | (intro h))
  all_goals (try simp only [decide_eq_true_eq, decide_eq_false_iff_not, beq_iff_eq, bne_iff_ne, beq_eq_false_iff_ne, bne_eq_false_iff_eq, Int.toNat_natCast, ge_iff_le, gt_iff_lt, Bool.not_eq_true', Bool.not_eq_false', Int.not_lt, Int.not_le, ne_eq] at *)
  all_goals (try dsimp only [Ty.den, Ty.dflt, StT, sLPlace] at *)
  all_goals (try simp only [eq4, ne4, eq3, ne3, eq2, ne2, Prod.eta, List.length_cons, List.length_nil, List.length_append, Nat.zero_add] at *)
  all_goals (try simp (disch := omega) only [wrap64] at *)
  all_goals try first | exact leafDraw (by kernel_rfl) | exact Leaf.mk trivial | (refine Leaf.mk ?_; omega) | (refine Leaf.mk ?_; unfold maxLen; omega)
  · exact Leaf.mk (ret1 (show l = withF l k by rw [withF, if_neg (by omega)]))
  refine LoopVC.on (fun n : Nat => [(5, .i .i64 n)]) (fun _ => []) (fun n => n ≤ l.length ∧ lastL k l l.length = lastL k l n) (fun n => n) l.length ?_ ⟨Nat.le_refl _, rfl⟩ ?_
  · rfl
  intro n ⟨hn, he⟩
  repeat' (first | ((with_reducible refine Ev.mk ?_); conv => whnf) | (with_reducible refine And.intro ?_ ?_) | (intro h))
  all_goals (try simp only [decide_eq_true_eq, decide_eq_false_iff_not, beq_iff_eq, bne_iff_ne, beq_eq_false_iff_ne, bne_eq_false_iff_eq, Int.toNat_natCast, ge_iff_le, gt_iff_lt, Bool.not_eq_true', Bool.not_eq_false', Int.not_lt, Int.not_le, ne_eq] at *)
  all_goals (try dsimp only [Ty.den, Ty.dflt, StT] at *)
  all_goals (try simp only [eq4, ne4, eq3, ne3, eq2, ne2, Prod.eta, List.length_cons, List.length_nil, List.length_append, Nat.zero_add] at *)
  all_goals (try simp (disch := omega) only [wrap64] at *)
  all_goals try first | exact leafDraw (by kernel_rfl) | exact Leaf.mk trivial | (refine Leaf.mk ?_; omega) | (refine Leaf.mk ?_; unfold maxLen; omega)
  all_goals try first
    | exact Leaf.mk (show l.length ≤ 100000 from hp)
    | exact Leaf.mk (show l.length ≤ 1000000 by omega)
    | (refine Leaf.mk (show (0 : Int) ≤ ((n : Nat) : Int) ∧ ((n : Nat) : Int) ≤ ((l.length : Nat) : Int) ∧ l.length + 1 ≤ 1000000 from ?_); omega)
  all_goals try
    obtain ⟨m, rfl⟩ : ∃ m, n = m + 1 := ⟨n - 1, by omega⟩
    rw [show (((m + 1 : Nat) : Int) - 1).toNat = m by omega] at h
    rw [lastL] at he
  · rw [if_neg (by rw [show sless (l.getD m stk0).1 k = false from h]; simp)] at he
    refine Leaf.mk (Exists.intro m ⟨?_, ⟨by omega, he⟩, by omega⟩)
    rw [show (((m + 1 : Nat) : Int) - 1) = (m : Int) by omega]; rfl
  · rw [if_pos (show sless (l.getD m stk0).1 k = true from h)] at he
    refine Leaf.mk (ret1 (show l.take (((m + 1 : Nat) : Int)).toNat ++ ([(k, [])] ++ l.drop (((m + 1 : Nat) : Int)).toNat) = withF l k from ?_))
    rw [Int.toNat_natCast, withF, if_pos (by assumption), he]; rfl
  · obtain rfl : n = 0 := by omega
    refine Leaf.mk (ret1 (show l.take (((0 : Nat) : Int)).toNat ++ ([(k, [])] ++ l.drop (((0 : Nat) : Int)).toNat) = withF l k from ?_))
    rw [Int.toNat_natCast, withF, if_pos (by assumption), he]; rfl
end Go.Proofs.YtkmfjlfejdoehaaGreat
