import Derived.Test.YtbobjiaggngbmaaEng4
import Derived.Shelf.Sort.Plain
import Derived.Shelf.Slices.In.SortNone
import Derived.Sort.AssemblyPlain
import Derived.Shelf.SlSortCmp.NoneTotal
/- Texts, one behind the other. -/
set_option linter.unusedVariables false
set_option linter.unusedSimpArgs false
namespace Go.Eng
open Go.RowKit (Below)
open Go.Sort (putRow grow Holds putCells mapBlock onCells)
section
variable {C : Cx} {w w' : World} {g g' : Gh} {h : Heap}
theorem RelH.later (R : RelH C h w g) (hb : Below w.heap.size w w') : RelH C h w' g ∧ Evo w g w' g := by
  have q : QRes C w g 0 .any [] .nilFunc w' g := ⟨hb, fun _ h => h, fun _ h => .inl h, fun _ h => ⟨h, rfl⟩, fun _ h => .inl h, by simp [RV], fun _ _ h => by simp [lookN] at h, fun _ _ _ _ _ h => by simp [lookN] at h⟩
  exact ⟨R.quiet q, q.evo R.F⟩
theorem putCells_take {α : Type} [Inhabited α] (enc : α → Value) (ys : List α) (cur : Array Value) (hl : ys.length ≤ cur.size) : (putCells enc 0 ys.toArray cur).toList.take ys.length = ys.map enc := by
  apply List.ext_getElem?
  intro k
  rw [List.getElem?_take]
  by_cases hk : k < ys.length
  · rw [if_pos hk, Array.getElem?_toList]
    simp only [putCells, Array.getElem?_mapIdx]
    rw [Array.getElem?_eq_getElem (by omega)]
    simp only [Option.map_some, Nat.zero_le, true_and, Nat.zero_add, List.size_toArray, Nat.sub_zero]
    rw [if_pos hk, List.getElem?_map, List.getElem?_eq_getElem hk]
    simp [hk]
  · rw [if_neg hk, List.getElem?_eq_none (by simpa using hk)]

end
end Go.Eng

set_option linter.unusedVariables false
set_option linter.unusedSimpArgs false
namespace Go.Eng
variable {C : Cx}
end Go.Eng

set_option linter.unusedVariables false
set_option linter.unusedSimpArgs false
namespace Go.Eng
open Go.RowKit (Below)
open Go.Sort (putRow grow Holds putCells mapBlock onCells flatK putRowK HoldsK SWO PermIn SortedIn pdq)
open Go.Proofs (sortWorldK CmpLays ltOf)
def sortFSpec (gc : FuncId) (e : Ty) (srt : List e.den → List e.den) : Spec := ⟨fun _ _ _ => none, fun args h _ => match args with
  | [.own id, .fn g []] => match Nat.beq g gc with
    | true => match lookN h id with
      | some (.arr te e' xs) => match castL e' e xs with
        | some xs => some ([xs.length < 4611686018427387904], .tup [], setObj h id (.arr te e (srt xs)))
        | none => none
      | _ => none
    | false => none
  | [.nil, .fn g []] => match Nat.beq g gc with
    | true => some ([], .tup [], h)
    | false => none
  | _ => none, noK, noT⟩

theorem flat_at {α : Type} [Inhabited α] {enc : α → List Value} {k : Nat} (hk : ∀ x, (enc x).length = k) : ∀ (xs : List α) (t : Nat), t < xs.length * k → (xs.flatMap enc)[t]? = some ((enc xs.toArray[t / k]!)[t % k]!)
  | [], t, h => by simp at h
  | x :: xs, t, h => by
    rw [List.flatMap_cons]
    by_cases h1 : t < k
    · rw [List.getElem?_append_left (by rw [hk]; exact h1), Nat.div_eq_of_lt h1, Nat.mod_eq_of_lt h1, List.getElem?_eq_getElem (by rw [hk]; exact h1)]
      simp [hk, h1]
    · have hk0 : 0 < k := by
        rcases Nat.eq_zero_or_pos k with h0 | h0
        · subst h0; simp at h
        · exact h0
      have ht : t = (t - k) + k := by omega
      have hd : t / k = (t - k) / k + 1 := by conv => lhs; rw [ht, Nat.add_div_right _ hk0]
      have hm : t % k = (t - k) % k := by conv => lhs; rw [ht, Nat.add_mod_right]
      rw [List.getElem?_append_right (by rw [hk]; omega), hk, flat_at hk xs (t - k) (by simp only [List.length_cons, Nat.add_mul, Nat.one_mul] at h; omega), hd, hm]
      have hq : (t - k) / k < xs.length := by
        rw [Nat.div_lt_iff_lt_mul hk0]
        simp only [List.length_cons, Nat.add_mul, Nat.one_mul] at h; omega
      simp [hq]
theorem flat_len {α : Type} {enc : α → List Value} {k : Nat} (hk : ∀ x, (enc x).length = k) : ∀ xs : List α, (xs.flatMap enc).length = xs.length * k
  | [] => by simp
  | x :: xs => by rw [List.flatMap_cons, List.length_append, hk, flat_len hk xs, List.length_cons, Nat.add_mul, Nat.one_mul, Nat.add_comm]
theorem flat_list {α : Type} [Inhabited α] {enc : α → List Value} {k : Nat} (hk : ∀ x, (enc x).length = k) (xs : List α) : flatK enc k xs.toArray = (xs.flatMap enc).toArray := by
  apply Array.ext'
  apply List.ext_getElem?
  intro t
  by_cases ht : t < xs.length * k
  · have h1 := Go.Sort.get_flatK enc k xs.toArray t (by simpa using ht)
    have hs : t < (flatK enc k xs.toArray).size := by simpa using ht
    rw [getElem!_pos _ t hs] at h1
    show (flatK enc k xs.toArray).toList[t]? = (xs.flatMap enc)[t]?
    rw [flat_at hk xs t ht, Array.getElem?_toList, Array.getElem?_eq_getElem hs, h1]
  · rw [List.getElem?_eq_none (by simp; omega), List.getElem?_eq_none (by show (xs.flatMap enc).length ≤ t; rw [flat_len hk]; omega)]

section
variable {C : Cx} {w w' : World} {g g' : Gh} {h : Heap}
theorem reps_encK {e : Ty} {enc : e.den → List Value} (hE : ∀ w F x cs, rep w F e x cs → cs = enc x) {F : Nat → Prop} : ∀ (xs : List e.den) (cs : List Value), reps w F e xs cs → cs = xs.flatMap enc
  | [], cs, h => h
  | x :: xs, cs, ⟨c, r, h0, h1, h2⟩ => by rw [h0, hE _ _ _ _ h1, reps_encK hE xs r h2]; rfl
theorem reps_permK {e : Ty} {enc : e.den → List Value} {F : Nat → Prop} : ∀ (xs : List e.den), (∀ x ∈ xs, rep w F e x (enc x)) → reps w F e xs (xs.flatMap enc)
  | [], _ => rfl
  | x :: xs, h => ⟨enc x, xs.flatMap enc, by rw [List.flatMap_cons], h x (by simp), reps_permK xs fun y hy => h y (by simp [hy])⟩
theorem reps_eachK {e : Ty} {enc : e.den → List Value} (hE : ∀ w F x cs, rep w F e x cs → cs = enc x) {F : Nat → Prop} : ∀ (xs : List e.den) (cs : List Value), reps w F e xs cs → ∀ x ∈ xs, rep w F e x (enc x)
  | [], _, _, x, hx => by simp at hx
  | y :: xs, cs, ⟨c, r, h0, h1, h2⟩, x, hx => by
    rcases List.mem_cons.1 hx with rfl | hx
    · have := hE _ _ _ _ h1; subst this; exact h1
    · exact reps_eachK hE xs r h2 x hx

theorem sortFSpec_ok {P : Program} {f gc : FuncId} {e : Ty} [Inhabited e.den] {srt : List e.den → List e.den} {enc : e.den → List Value} (hE : ∀ w F x cs, rep w F e x cs → cs = enc x) (hk : ∀ x, (enc x).length = e.cells) (hp : ∀ xs, (srt xs).Perm xs)
    (h0 : ∀ p cap w, Calls P f #[.slice p 0 cap, .func (.func gc) #[] #[]] w fun e w' => e = .returned (.tuple #[]) ∧ w' = w)
    (hS : ∀ (blk off cap : Nat) (xs : List e.den) (w : World), HoldsK enc e.cells w blk off xs.toArray → blk < w.heap.size → xs.length < 4611686018427387904 →
      Calls P f #[.slice (some ⟨blk, off, none⟩) xs.length cap, .func (.func gc) #[] #[]] w fun e' w' => e' = .returned (.tuple #[]) ∧ ∃ n os, w' = sortWorldK enc e.cells w blk off n (srt xs).toArray os) :
    SpecOk P f (sortFSpec gc e srt) := by
  refine ⟨fun C w g h fresh args vals c v news hP R hf hv hs hc => by simp [sortFSpec] at hs, ?_, fun C w g h fresh args vals K hP R hf hu hv hs => (show False from hs).elim, fun _ _ _ _ _ _ _ _ _ _ _ _ _ _ _ _ _ hs _ => (by cases (show (none : Option (List Prop × V × Nat × Obj)) = some _ from hs)), fun _ _ _ _ _ _ _ hs => (by cases (show (none : Option (List Prop × V × Nat × Obj)) = some _ from hs))⟩
  intro C w g h fresh args vals c v h' hP R hf hv hs hc
  simp only [sortFSpec] at hs
  split at hs
  · rename_i id gg
    split at hs
    rotate_left
    · simp at hs
    rename_i hgg
    obtain rfl := Nat.eq_of_beq_eq_true hgg
    simp only [RVs] at hv
    obtain ⟨x, xl, rfl, hx, y, yl, rfl, hy, rfl⟩ := hv
    simp only [RV, RVs] at hx hy
    obtain ⟨hU, rfl, _⟩ := hx
    obtain ⟨_, rfl, rfl⟩ := hy
    split at hs
    · rename_i te e' xs' ho
      cases hcast : castL e' e xs' with
      | none => simp [hcast] at hs
      | some xs =>
        simp only [hcast, Option.some.injEq, Prod.mk.injEq] at hs
        obtain ⟨rfl, rfl, rfl⟩ := hs
        obtain ⟨rfl, hxs⟩ := castL_eq hcast
        simp at hxs
        subst hxs
        have hlen := hc _ List.mem_cons_self
        have hO := (R.obj id _ ho).2
        have hO' := hO
        obtain ⟨cells, k1, k2, k3, k4⟩ := hO'
        have hpl : (srt xs').length = xs'.length := (hp xs').length_eq
        rcases k1.2 with ⟨hnil, hn0⟩ | ⟨gg', cp, cur, hval, _, hheap, hncap, hcm, hcs, htake⟩
        · have hx0 : xs' = [] := List.eq_nil_of_length_eq_zero hn0
          subst hx0
          have hs0 : srt [] = [] := List.eq_nil_of_length_eq_zero (by rw [hpl]; rfl)
          rw [hs0]
          have R' : RelH C (setObj h id (.arr te e' [])) w g := by
            have : ∀ k, lookN (setObj h id (.arr te e' [])) k = lookN h k := fun k => by
              rw [lookN_setObj]
              by_cases hk : k = id
              · subst hk; rw [if_pos rfl, ho]; rfl
              · rw [if_neg hk]
            exact ⟨R.keep, R.size, R.os, R.tape, R.output, R.F, R.Fin, R.pin, R.lam, fun k o hk => R.obj k o (by rw [← this]; exact hk), fun k o k' o' b hk hk' => R.sep k o k' o' b (by rw [← this]; exact hk) (by rw [← this]; exact hk')⟩
          rw [hnil]
          refine (h0 none 0 w).mono ?_
          rintro e2 w2 ⟨rfl, rfl⟩
          exact ⟨_, g, rfl, R', Evo.refl _ _, by simp [RV, RVs], fun id h => .inl h⟩
        · have hce := reps_encK hE xs' cells k2
          have hlt : gg' < w.heap.size := (Array.getElem?_eq_some_iff.1 hheap).1
          have hcl : (xs'.flatMap enc).length = xs'.length * e'.cells := flat_len hk xs'
          have hH : HoldsK enc e'.cells w gg' 0 xs'.toArray := by
            unfold HoldsK
            rw [flat_list hk]
            intro j hj
            simp only [List.size_toArray] at hj
            refine ⟨?_, ?_⟩
            · simp only [World.cell?, hheap, Nat.zero_add, Option.isSome_none, Bool.false_eq_true, if_false]
              have : (cur.toList.take (xs'.length * e'.cells))[j]? = some (_root_.id ((xs'.flatMap enc)[j])) := by
                rw [htake, hce, List.getElem?_eq_getElem hj]; rfl
              rw [List.getElem?_take, if_pos (by omega), Array.getElem?_toList] at this
              rw [this]
              simp only [List.getElem!_toArray, getElem!_def, List.getElem?_toArray, List.getElem?_eq_getElem hj]
            · simp only [World.frozen?, hheap]
              simp
          rw [hval]
          refine (hS gg' 0 cp xs' w hH hlt hlen).mono ?_
          rintro e2 w2 ⟨rfl, n, os, rfl⟩
          unfold sortWorldK putRowK
          rw [flat_list hk]
          have hcl2 : ((srt xs').flatMap enc).length = xs'.length * e'.cells := by rw [flat_len hk, hpl]
          have hb1 : (putRow _root_.id (Go.Sort.ahead w n) gg' 0 ((srt xs').flatMap enc).toArray).heap[gg']? = some (.cells (putCells _root_.id 0 ((srt xs').flatMap enc).toArray cur) te (0, 0)) := by
            simp only [putRow, mapBlock, Go.Sort.heap_ahead, Array.getElem?_modify, if_true, hheap, Option.map_some, onCells]
          have hcm2 : xs'.length * e'.cells ≤ cur.size := by rw [hcs]; exact Nat.mul_le_mul_right _ hncap
          obtain ⟨R1, e1⟩ := RelH.write (w' := putRow _root_.id (Go.Sort.ahead w n) gg' 0 ((srt xs').flatMap enc).toArray) R ho rfl (o' := .arr te e' (srt xs')) rfl (blk := gg') (by rw [hval]; rfl)
            (fun b hb => by simp only [putRow, mapBlock, Go.Sort.heap_ahead, Array.getElem?_modify]; rw [if_neg (Ne.symm hb)]) (by simp) rfl rfl rfl (fun ev => by
              refine ⟨(srt xs').flatMap enc, ⟨by rw [hcl2, hpl], .inr ⟨gg', cp, _, by rw [hval, hpl], by omega, hb1, by omega, hcm, ?_, ?_⟩⟩, ?_, k3, ?_⟩
              · simp only [putCells, Array.size_mapIdx]; exact hcs
              · have := putCells_take (_root_.id : Value → Value) ((srt xs').flatMap enc) cur (by omega)
                rw [hcl2] at this
                rw [hpl, this, List.map_id]
              · refine reps_permK _ fun x hx => rep_mono ev.F _ _ _ (reps_eachK hE xs' cells k2 x ((hp xs').mem_iff.1 hx))
              · exact k4)
          obtain ⟨R2, e2⟩ := RelH.later (w' := grow (putRow _root_.id (Go.Sort.ahead w n) gg' 0 ((srt xs').flatMap enc).toArray) os) R1 ⟨rfl, rfl, rfl, by simp, fun k hk => Go.Sort.heap_grow_old _ _ hk⟩
          exact ⟨_, g, rfl, R2, e1.trans e2, by simp [RV, RVs], fun id h => .inl h⟩
    · simp at hs
  · rename_i gg
    split at hs
    rotate_left
    · simp at hs
    rename_i hgg
    obtain rfl := Nat.eq_of_beq_eq_true hgg
    simp only [Option.some.injEq, Prod.mk.injEq] at hs
    obtain ⟨rfl, rfl, rfl⟩ := hs
    simp only [RVs] at hv
    obtain ⟨x, xl, rfl, hx, y, yl, rfl, hy, rfl⟩ := hv
    simp only [RV, RVs] at hx hy
    subst hx
    obtain ⟨_, rfl, rfl⟩ := hy
    refine (h0 none 0 w).mono ?_
    rintro e2 w2 ⟨rfl, rfl⟩
    exact ⟨_, g, rfl, R, Evo.refl _ _, by simp [RV, RVs], fun id h => .inl h⟩
  · simp at hs
end
def srtF {α : Type} [Inhabited α] (cf : α → α → Int) (l : List α) : List α := (pdq (ltOf cf) l.toArray 0 l.length (Lib.bitLen l.length) true true).toList
theorem srtF_ok {α : Type} [Inhabited α] {cf : α → α → Int} (hO : SWO (ltOf cf)) (l : List α) : (srtF cf l).Perm l ∧ (srtF cf l).Pairwise fun x y => ltOf cf y x = false := by
  have h := Go.Sort.pdq_sorts (ltOf cf) hO l.toArray 0 l.toArray.size (Lib.bitLen l.length) true true (Nat.zero_le _) (Nat.le_refl _) (Or.inl rfl)
  have e : pdq (ltOf cf) l.toArray 0 l.toArray.size (Lib.bitLen l.length) true true = (srtF cf l).toArray := by simp [srtF]
  rw [e] at h
  obtain ⟨⟨h1, -, h2⟩, h3⟩ := h
  have hl : (srtF cf l).length = l.length := by simpa using h1
  refine ⟨?_, ?_⟩
  · have a1 : ((srtF cf l).toArray.extract 0 l.toArray.size).toList = srtF cf l := by simp [← hl]
    have a2 : (l.toArray.extract 0 l.toArray.size).toList = l := by simp
    rw [a1, a2] at h2; exact h2
  · rw [List.pairwise_iff_getElem]
    intro i j hi hj hij
    have := h3 i j (Nat.zero_le _) hij (by simp; omega)
    simpa [hi, hj] using this
end Go.Eng
