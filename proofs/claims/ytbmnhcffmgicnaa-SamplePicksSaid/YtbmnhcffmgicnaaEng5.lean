import Derived.Test.YtbmnhcffmgicnaaEng4
import Derived.Shelf.Sort.Plain
import Derived.Shelf.Slices.In.SortNone
import Derived.Sort.AssemblyPlain
/- Texts, one behind the other. -/
set_option linter.unusedVariables false
set_option linter.unusedSimpArgs false
namespace Go.Eng
open Go.RowKit (Below)
open Go.Sort (putRow grow Holds putCells mapBlock onCells)
def sortSpec (e : Ty) (srt : List e.den → List e.den) : Spec := ⟨fun _ _ _ => none, fun args h _ => match args with
  | [.own id] => match lookN h id with
    | some (.arr te e' xs) => match castL e' e xs with
      | some xs => some ([xs.length < 4611686018427387904], .tup [], setObj h id (.arr te e (srt xs)))
      | none => none
    | _ => none
  | [.nil] => some ([], .tup [], h)
  | _ => none, noK, noT⟩

section
variable {C : Cx} {w w' : World} {g g' : Gh} {h : Heap}
theorem RelH.later (R : RelH C h w g) (hb : Below w.heap.size w w') : RelH C h w' g ∧ Evo w g w' g := by
  have q : QRes C w g 0 .any [] .nilFunc w' g := ⟨hb, fun _ h => h, fun _ h => .inl h, fun _ h => ⟨h, rfl⟩, fun _ h => .inl h, by simp [RV], fun _ _ h => by simp [lookN] at h, fun _ _ _ _ _ h => by simp [lookN] at h⟩
  exact ⟨R.quiet q, q.evo R.F⟩
theorem reps_enc {e : Ty} {enc : e.den → Value} (hE : ∀ w F x cs, rep w F e x cs → cs = [enc x]) {F : Nat → Prop} : ∀ (xs : List e.den) (cs : List Value), reps w F e xs cs → cs = xs.map enc
  | [], cs, h => h
  | x :: xs, cs, ⟨c, r, h0, h1, h2⟩ => by rw [h0, hE _ _ _ _ h1, reps_enc hE xs r h2]; rfl
theorem reps_perm {e : Ty} {enc : e.den → Value} (hE : ∀ w F x cs, rep w F e x cs → cs = [enc x]) {F : Nat → Prop} : ∀ (xs : List e.den), (∀ x ∈ xs, rep w F e x [enc x]) → reps w F e xs (xs.map enc)
  | [], _ => rfl
  | x :: xs, h => ⟨[enc x], xs.map enc, rfl, h x (by simp), reps_perm hE xs fun y hy => h y (by simp [hy])⟩
theorem reps_each {e : Ty} {enc : e.den → Value} (hE : ∀ w F x cs, rep w F e x cs → cs = [enc x]) {F : Nat → Prop} : ∀ (xs : List e.den) (cs : List Value), reps w F e xs cs → ∀ x ∈ xs, rep w F e x [enc x]
  | [], _, _, x, hx => by simp at hx
  | y :: xs, cs, ⟨c, r, h0, h1, h2⟩, x, hx => by
    rcases List.mem_cons.1 hx with rfl | hx
    · have := hE _ _ _ _ h1; subst this; exact h1
    · exact reps_each hE xs r h2 x hx

theorem putCells_take {α : Type} [Inhabited α] (enc : α → Value) (ys : List α) (cur : Array Value) (hl : ys.length ≤ cur.size) : (putCells enc 0 ys.toArray cur).toList.take ys.length = ys.map enc := by
  apply List.ext_getElem?
  intro k
  rw [List.getElem?_take]
  by_cases hk : k < ys.length
  · rw [if_pos hk, Array.getElem?_toList]
    simp only [putCells, Array.getElem?_mapIdx]
    rw [Array.getElem?_eq_getElem (by omega)]
    simp only [Option.map_some, Nat.zero_le, true_and, Nat.zero_add, List.size_toArray, Nat.sub_zero]
    rw [if_pos hk, List.getElem?_map, List.getElem?_eq_getElem hk]
    simp [hk]
  · rw [if_neg hk, List.getElem?_eq_none (by simpa using hk)]

theorem sortSpec_ok {P : Program} {f : FuncId} {e : Ty} [Inhabited e.den] {srt : List e.den → List e.den} {enc : e.den → Value} (hE : ∀ w F x cs, rep w F e x cs → cs = [enc x]) (h1 : e.cells = 1) (hp : ∀ xs, (srt xs).Perm xs)
    (h0 : ∀ p cap w, Calls P f #[.slice p 0 cap] w fun e w' => e = .returned (.tuple #[]) ∧ w' = w)
    (hS : ∀ (blk off cap : Nat) (xs : List e.den) (w : World), Holds enc w blk off xs.toArray → blk < w.heap.size → xs.length < 4611686018427387904 →
      Calls P f #[.slice (some ⟨blk, off, none⟩) xs.length cap] w fun e w' => e = .returned (.tuple #[]) ∧ ∃ n os, w' = grow (putRow enc (Go.Sort.ahead w n) blk off (srt xs).toArray) os) :
    SpecOk P f (sortSpec e srt) := by
  refine ⟨fun C w g h fresh args vals c v news hP R hf hv hs hc => by simp [sortSpec] at hs, ?_, fun C w g h fresh args vals K hP R hf hu hv hs => (show False from hs).elim, fun _ _ _ _ _ _ _ _ _ _ _ _ _ _ _ _ _ hs _ => (by cases (show (none : Option (List Prop × V × Nat × Obj)) = some _ from hs)), fun _ _ _ _ _ _ _ hs => (by cases (show (none : Option (List Prop × V × Nat × Obj)) = some _ from hs))⟩
  intro C w g h fresh args vals c v h' hP R hf hv hs hc
  simp only [sortSpec] at hs
  split at hs
  · rename_i id
    simp only [RVs] at hv
    obtain ⟨x, xl, rfl, hx, rfl⟩ := hv
    simp only [RV] at hx
    obtain ⟨hU, rfl, _⟩ := hx
    split at hs
    · rename_i te e' xs' ho
      cases hcast : castL e' e xs' with
      | none => simp [hcast] at hs
      | some xs =>
        simp only [hcast, Option.some.injEq, Prod.mk.injEq] at hs
        obtain ⟨rfl, rfl, rfl⟩ := hs
        obtain ⟨rfl, hxs⟩ := castL_eq hcast
        simp at hxs
        subst hxs
        have hlen := hc _ List.mem_cons_self
        have hO := (R.obj id _ ho).2
        have hO' := hO
        obtain ⟨cells, k1, k2, k3, k4⟩ := hO'
        have hpl : (srt xs').length = xs'.length := (hp xs').length_eq
        rcases k1.2 with ⟨hnil, hn0⟩ | ⟨gg, cp, cur, hval, _, hheap, hncap, hcm, hcs, htake⟩
        · have hx0 : xs' = [] := List.eq_nil_of_length_eq_zero hn0
          subst hx0
          have hs0 : srt [] = [] := List.eq_nil_of_length_eq_zero (by rw [hpl]; rfl)
          rw [hs0]
          have R' : RelH C (setObj h id (.arr te e' [])) w g := by
            have : ∀ k, lookN (setObj h id (.arr te e' [])) k = lookN h k := fun k => by
              rw [lookN_setObj]
              by_cases hk : k = id
              · subst hk; rw [if_pos rfl, ho]; rfl
              · rw [if_neg hk]
            exact ⟨R.keep, R.size, R.os, R.tape, R.output, R.F, R.Fin, R.pin, R.lam, fun k o hk => R.obj k o (by rw [← this]; exact hk), fun k o k' o' b hk hk' => R.sep k o k' o' b (by rw [← this]; exact hk) (by rw [← this]; exact hk')⟩
          rw [hnil]
          refine (h0 none 0 w).mono ?_
          rintro e2 w2 ⟨rfl, rfl⟩
          exact ⟨_, g, rfl, R', Evo.refl _ _, by simp [RV, RVs], fun id h => .inl h⟩
        · rw [h1] at hcs htake
          simp only [Nat.mul_one] at hcs htake
          have hce := reps_enc hE xs' cells k2
          have hlt : gg < w.heap.size := (Array.getElem?_eq_some_iff.1 hheap).1
          have hH : Holds enc w gg 0 xs'.toArray := fun j hj => by
            simp only [List.size_toArray] at hj
            refine ⟨?_, ?_⟩
            · simp only [World.cell?, hheap, Nat.zero_add, Option.isSome_none, Bool.false_eq_true, if_false]
              have : (cur.toList.take xs'.length)[j]? = some (enc xs'[j]) := by rw [htake, hce, List.getElem?_map, List.getElem?_eq_getElem hj]; rfl
              rw [List.getElem?_take, if_pos hj, Array.getElem?_toList] at this
              rw [this]
              simp [hj]
            · simp only [World.frozen?, hheap]
              simp
          rw [hval]
          refine (hS gg 0 cp xs' w hH hlt hlen).mono ?_
          rintro e2 w2 ⟨rfl, n, os, rfl⟩
          have hb1 : (putRow enc (Go.Sort.ahead w n) gg 0 (srt xs').toArray).heap[gg]? = some (.cells (putCells enc 0 (srt xs').toArray cur) te (0, 0)) := by
            simp only [putRow, mapBlock, Go.Sort.heap_ahead, Array.getElem?_modify, if_true, hheap, Option.map_some, onCells]
          obtain ⟨R1, e1⟩ := RelH.write (w' := putRow enc (Go.Sort.ahead w n) gg 0 (srt xs').toArray) R ho rfl (o' := .arr te e' (srt xs')) rfl (blk := gg) (by rw [hval]; rfl)
            (fun b hb => by simp only [putRow, mapBlock, Go.Sort.heap_ahead, Array.getElem?_modify]; rw [if_neg (Ne.symm hb)]) (by simp) rfl rfl rfl (fun ev => by
              refine ⟨(srt xs').map enc, ⟨by rw [List.length_map, h1, Nat.mul_one], .inr ⟨gg, cp, _, by rw [hval, hpl], by omega, hb1, by omega, hcm, ?_, ?_⟩⟩, ?_, k3, ?_⟩
              · rw [h1, Nat.mul_one]; simp only [putCells, Array.size_mapIdx]; exact hcs
              · rw [h1, Nat.mul_one, putCells_take enc (srt xs') cur (by omega)]
              · refine reps_perm hE _ fun x hx => rep_mono ev.F _ _ _ (reps_each hE xs' cells k2 x ((hp xs').mem_iff.1 hx))
              · exact k4)
          obtain ⟨R2, e2⟩ := RelH.later (w' := grow (putRow enc (Go.Sort.ahead w n) gg 0 (srt xs').toArray) os) R1 ⟨rfl, rfl, rfl, by simp, fun k hk => Go.Sort.heap_grow_old _ _ hk⟩
          exact ⟨_, g, rfl, R2, e1.trans e2, by simp [RV, RVs], fun id h => .inl h⟩
    · simp at hs
  · simp only [Option.some.injEq, Prod.mk.injEq] at hs
    obtain ⟨rfl, rfl, rfl⟩ := hs
    simp only [RVs] at hv
    obtain ⟨x, xl, rfl, hx, rfl⟩ := hv
    simp only [RV] at hx
    subst hx
    refine (h0 none 0 w).mono ?_
    rintro e2 w2 ⟨rfl, rfl⟩
    exact ⟨_, g, rfl, R, Evo.refl _ _, by simp [RV, RVs], fun id h => .inl h⟩
  · simp at hs
end
def sortStr : List (List UInt8) → List (List UInt8) := fun l => l.mergeSort fun x y => decide (x ≤ y)
open Go.Proofs Go.Shelf in
theorem sortStr_ok {P : Program} {ρ : Ren} (L : Lays.n190 P ρ) {f : FuncId} (hf : ρ.f 190 = f) : SpecOk P f (sortSpec .str sortStr) := by
  subst hf
  exact sortSpec_ok (e := .str) (enc := fun l => Value.string ⟨l.toArray⟩) (fun w F x cs h => h.1) rfl (fun xs => List.mergeSort_perm _ _)
    (fun p cap w => Any.slices_Sort_string_none L p cap w) (fun blk off cap xs w hH hb hl => Any.slices_Sort_string L blk off cap xs w hH hb hl)
end Go.Eng
