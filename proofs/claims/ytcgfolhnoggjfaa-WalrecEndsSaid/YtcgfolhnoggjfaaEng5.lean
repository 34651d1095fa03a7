import Derived.Test.YtcgfolhnoggjfaaEng4
import Derived.Shelf.Sort.Plain
import Derived.Shelf.Slices.In.SortNone
import Derived.Sort.AssemblyPlain
import Derived.Shelf.SlIterI.Nil
/- Texts, one behind the other. -/
set_option linter.unusedVariables false
set_option linter.unusedSimpArgs false
namespace Go.Eng
open Go.RowKit (Below)
open Go.Sort (putRow grow Holds putCells mapBlock onCells)
section
variable {C : Cx} {w w' : World} {g g' : Gh} {h : Heap}
theorem reps_perm {e : Ty} {enc : e.den → Value} (hE : ∀ w F x cs, rep w F e x cs → cs = [enc x]) {F : Nat → Prop} : ∀ (xs : List e.den), (∀ x ∈ xs, rep w F e x [enc x]) → reps w F e xs (xs.map enc)
  | [], _ => rfl
  | x :: xs, h => ⟨[enc x], xs.map enc, rfl, h x (by simp), reps_perm hE xs fun y hy => h y (by simp [hy])⟩
end
def sortInt : List Int → List Int := fun l => l.mergeSort fun x y => decide (x ≤ y)
end Go.Eng

set_option linter.unusedVariables false
set_option linter.unusedSimpArgs false
namespace Go.Eng
open Go.RowKit (Below)
open Go.Sort (putRow grow Holds putCells mapBlock onCells)
def sortedKeys (gk te : Nat) : Spec := ⟨fun args h fresh => match args with
  | [.fn g [.ptr id 0]] => match Nat.beq g gk with
    | true => match lookN h id with
      | some (.box [.mp m]) => match lookN h m with
        | some (.map (.int .i64) .bool l) => some ([l.length ≤ 1000000], .own fresh, [(fresh, .arr te (.int .i64) (sortInt (l.map fun p => p.1)))])
        | _ => none
      | _ => none
    | false => none
  | _ => none, fun _ _ _ => none, noK⟩

section
variable {C : Cx} {w w' : World} {g g' : Gh} {h : Heap}
open Go.Proofs Go.Shelf Go.WideElems Go.WideShapes Go.Maps
theorem mapRep_keys {F : Nat → Prop} : ∀ (l : List (Int × Bool)) (es : List MapEntry), mapRep (.int .i64) .bool w F l es →
    es.length = l.length ∧ (∀ x ∈ es, ∃ p ∈ l, x.key = .int .i64 p.1 ∧ x.val = .bool p.2 ∧ IntKind.i64.min ≤ p.1 ∧ p.1 ≤ IntKind.i64.max) ∧ (∀ p ∈ l, IntKind.i64.min ≤ p.1 ∧ p.1 ≤ IntKind.i64.max) ∧ es.map (fun x => x.key) = l.map fun p => Value.int .i64 p.1
  | [], es, h => by
    simp only [mapRep] at h
    subst h
    exact ⟨rfl, fun x hx => by simp at hx, fun p hp => by simp at hp, rfl⟩
  | (a, v) :: r, es, h => by
    simp only [mapRep] at h
    obtain ⟨x, xs, rfl, h1, h2, h3⟩ := h
    obtain ⟨k1, k2, k3, k4⟩ := mapRep_keys r xs h3
    simp only [keyRep] at h1
    have hv : x.val = .bool v := by
      simp only [rep] at h2
      simpa using h2
    refine ⟨by simp [k1], fun y hy => ?_, fun p hp => ?_, by simp [h1.1, k4]⟩
    · rcases List.mem_cons.1 hy with rfl | hy
      · exact ⟨(a, v), by simp, h1.1, hv, h1.2⟩
      · obtain ⟨p, q1, q2⟩ := k2 y hy
        exact ⟨p, by simp [q1], q2⟩
    · rcases List.mem_cons.1 hp with rfl | hp
      · exact h1.2
      · exact k3 p hp

theorem sortedKeys_ok {P : Program} {ρk ρs : Ren} (Lk : SlLaysZI.n10 P ρk) (Ls : SlLaysZI.n6 P ρs) (hsort : ∀ m, AnyZI.SortsIn P ρs Fence.wide m) {tb : TypeId} (htb : P.underlying tb = some .bool)
    (e9 : ∀ args w, (callFunc (ρs.f 9) args).run P w = .ok (.enter (ρs.f 9) args) w) (eg : ∀ args w, (callFunc (ρk.f 10) args).run P w = .ok (.enter (ρk.f 10) args) w)
    {f gk te : Nat} (hf : ρs.f 6 = f) (hg : ρk.f 10 = gk) (hte : ρs.t 26 = te) (hte2 : ρk.t 26 = te) : SpecOk P f (sortedKeys gk te) := by
  subst hf; subst hg; subst hte
  refine ⟨?_, fun C w g h fresh args vals c v h' hP R hf hv hs hc => by simp [sortedKeys] at hs, fun C w g h fresh args vals K hP R hf hu hv hs => (show False from hs).elim⟩
  intro C w g h fresh args vals c v news hP R hfr hv hs hc
  simp only [sortedKeys] at hs
  split at hs
  rotate_left
  · simp at hs
  rename_i gg id
  split at hs
  rotate_left
  · simp at hs
  rename_i hgg
  obtain rfl := Nat.eq_of_beq_eq_true hgg
  split at hs
  rotate_left
  · simp at hs
  rename_i m hbox
  split at hs
  rotate_left
  · simp at hs
  rename_i l hmap
  simp only [Option.some.injEq, Prod.mk.injEq] at hs
  obtain ⟨rfl, rfl, rfl⟩ := hs
  have hlen := hc _ List.mem_cons_self
  change List (Int × Bool) at l
  -- the value
  simp only [RVs] at hv
  obtain ⟨x, xl, rfl, hx, rfl⟩ := hv
  simp only [RV, RVs] at hx
  obtain ⟨vs, rfl, y, ys, rfl, ⟨hU, a, ha, rfl⟩, rfl⟩ := hx
  obtain ⟨-, blk, bs, tb', b1, b2, b3, b4, -⟩ := R.obj id _ hbox
  rw [ha] at b1
  simp only [Value.pointer.injEq, Option.some.injEq] at b1
  subst b1
  simp only [RVs, RV] at b3
  obtain ⟨mv, ms, rfl, ⟨hUm, rfl, -⟩, rfl⟩ := b3
  obtain ⟨-, mb, es, clock, m1, m2, m3, m4, -⟩ := R.obj m _ hmap
  rw [m1] at b2
  obtain ⟨k1, k2, k3, k4⟩ := mapRep_keys l es.toList m3
  have hbl : blk < w.heap.size := (Array.getElem?_eq_some_iff.1 b2).1
  have hcell : w.cell? ⟨blk, 0, none⟩ = some (.map (some mb)) := by simp [World.cell?, b2]
  have t26 := Lk.t26
  rw [hte2] at t26
  -- the map
  have hrd : ∀ x ∈ es.toList, ∃ p ∈ l, x.key = .int .i64 p.1 ∧ Go.WideElems.rd (H := Unit) P (ρs.t 26) (plainElem P tb) x = some (.int .i64 p.1, .lit (.bool p.2)) := fun x hx => by
    obtain ⟨p, hp, q1, q2, q3⟩ := k2 x hx
    refine ⟨p, hp, q1, ?_⟩
    have hk : keyOf P (ρs.t 26) x.key = some (.int .i64 p.1) := by
      rw [q1]
      simp [keyOf, t26, mapKey, Lit.wf]
      exact q3
    have he : plainElem (H := Unit) P tb x.val = some (.lit (.bool p.2), []) := by rw [q2]; simp [plainElem, htb]
    simp [Go.WideElems.rd, hk, he]
  have hFit : Fit (H := Unit) P (ρs.t 26) (plainElem P tb) es clock := ⟨by
    have : es.size = l.length := by rw [← k1]; simp
    unfold maxLen; omega, m4, fun x hx => by obtain ⟨p, _, _, h⟩ := hrd x hx; exact ⟨_, h⟩⟩
  have hown : w.ownsMap P (ρs.t 26) (plainElem (H := Unit) P tb) mb es.size (.map ((es.toList.map (rg P (ρs.t 26) (plainElem P tb))).foldr DataW.insert [])) := ⟨es, clock, m2, hFit, Nat.le_refl _, rfl⟩
  generalize hD : (es.toList.map (rg (H := Unit) P (ρs.t 26) (plainElem P tb))) = E at hown
  have hkeys : (intKeys (.map (E.foldr DataW.insert []))).Perm (l.map fun p => p.1) := by
    show ((E.foldr DataW.insert []).map fun p => intOf p.1).Perm _
    refine ((sorted_perm E).map _).trans (List.Perm.of_eq ?_)
    rw [← hD, List.map_map]
    have h1 : es.toList.map ((fun p : Lit × DataW Unit => intOf p.1) ∘ rg P (ρs.t 26) (plainElem P tb)) = (es.toList.map fun x => x.key).map (fun v => match v with | .int _ n => n | _ => 0) := by
      rw [List.map_map]
      refine List.map_congr_left fun x hx => ?_
      obtain ⟨p, _, q1, q2⟩ := hrd x hx
      simp only [Function.comp, rg_of q2, q1, intOf]
    rw [h1, k4, List.map_map]
    exact List.map_congr_left fun p _ => rfl
  have hszE : Go.Maps.size (.map (E.foldr DataW.insert []) : DataW Unit) ≤ 1000000 := by
    show (E.foldr DataW.insert []).length ≤ _
    rw [(sorted_perm E).length_eq, ← hD, List.length_map, k1]; exact hlen
  have hseq := AnyZI.keys_gives Lk Fence.wide 2 trivial rfl (by omega) blk mb es.size (.map (E.foldr DataW.insert [])) (R := plainElem (H := Unit) P tb) w hbl hcell (by rw [hte2]; exact hown)
  have cS := AnyZI.sorted_in Ls Fence.wide 5 trivial trivial trivial trivial rfl (by omega) (hsort _) e9 (ρk.f 10) #[.pointer (some ⟨blk, 0, none⟩)] trivial eg _ _ (by unfold maxLen; omega) (by omega) w hseq
  have hfin := callsIn_wide.1 cS
  have hadd : (⟨blk, 0, none⟩ : Addr).add 0 = ⟨blk, 0, none⟩ := by simp [Addr.add]
  have hargs : ([Value.func (.func (ρk.f 10)) #[] ([Value.pointer (some ((⟨blk, 0, none⟩ : Addr).add 0))] : List Value).toArray] : List Value).toArray = #[.func (.func (ρk.f 10)) #[] #[.pointer (some ⟨blk, 0, none⟩)]] := by rw [hadd]
  rw [hargs]
  refine hfin.mono ?_
  rintro e2 w2 ⟨v2, ss, rfl, hss, hrow, hnil, hb⟩
  have hpl : ss.Perm (l.map fun p => p.1) := hss.trans hkeys
  have hsrt : ss.mergeSort (fun x y => decide (x ≤ y)) = sortInt (l.map fun p => p.1) := mergeSort_of_perm_i hpl
  rw [hsrt] at hrow
  have hln : ss.length = (sortInt (l.map fun p => p.1)).length := by
    rw [hpl.length_eq]; exact (List.mergeSort_perm _ _).length_eq.symm
  rw [hln] at hrow
  refine ⟨v2, _, rfl, QRes.arr (e := .int .i64) R (hfr fresh (Nat.le_refl _) (by omega)) hb hrow ?_ Nat.one_pos ?_⟩
  · refine reps_perm (e := .int .i64) (enc := Value.int .i64) (fun w F x cs h => h.1) _ fun x hx => ?_
    have hx' : x ∈ l.map fun p => p.1 := (List.mergeSort_perm _ _).mem_iff.1 hx
    obtain ⟨p, hp, rfl⟩ := List.mem_map.1 hx'
    exact ⟨rfl, k3 p hp⟩
  · rcases hrow.2 with ⟨rfl, _⟩ | ⟨gg, cap, cur, rfl, _⟩
    · exact ⟨_, _, _, rfl⟩
    · exact ⟨_, _, _, rfl⟩
end
end Go.Eng
