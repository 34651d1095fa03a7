import Derived.Test.YtlfehkoklgmjjaaEngN
/- Functions that are pure: what they make of data, and of function values that are pure, is told by a Lean function. -/
set_option linter.unusedVariables false
set_option linter.unusedSimpArgs false
namespace Go.Eng
open Go.RowKit (Below)

/-- An argument: data; a variable that is only read; a pure function. -/
inductive AK where
  | d (t : Ty) | bx (t : Ty) | lam (a b : Ty)
@[reducible] def AK.den : AK → Type
  | .d t => t.den
  | .bx t => t.den
  | .lam a b => a.den → b.den
@[reducible] def ADen : List AK → Type
  | [] => Unit
  | k :: r => k.den × ADen r
def AK.v : (k : AK) → k.den → V
  | .d t, x => vOfDen t x
  | .bx t, x => .rp (ofDen t x)
  | .lam a b, p => .lam a b p
def argsV : (l : List AK) → ADen l → List V
  | [], _ => []
  | k :: r, x => k.v x.1 :: argsV r x.2

/-- A piece of a result: data that nobody turns any more; a slice that the caller may turn. -/
inductive RK where
  | d (t : Ty) | o (te : TypeId) (e : Ty)
@[reducible] def RK.den : RK → Type
  | .d t => t.den
  | .o _ e => List e.den
@[reducible] def PDen : List RK → Type
  | [] => Unit
  | k :: r => k.den × PDen r
/-- A result: an aggregate of pieces, or one piece bare. -/
structure RS where
  agg : Bool
  ps : List RK
@[reducible] def RDen : List RS → Type
  | [] => Unit
  | r :: rs => PDen r.ps × RDen rs
def psN : List RK → Nat
  | [] => 0
  | .d _ :: r => psN r
  | .o _ _ :: r => psN r + 1
def psV : (l : List RK) → PDen l → Nat → List V
  | [], _, _ => []
  | .d t :: r, x, k => ofDen t x.1 ++ psV r x.2 k
  | .o _ _ :: r, x, k => .own k :: psV r x.2 (k + 1)
def psH : (l : List RK) → PDen l → Nat → Heap
  | [], _, _ => []
  | .d t :: r, x, k => psH r x.2 k
  | .o te e :: r, x, k => (k, .arr te e x.1) :: psH r x.2 (k + 1)
def rsN : List RS → Nat
  | [] => 0
  | r :: rs => psN r.ps + rsN rs
def oneV (agg : Bool) (cs : List V) : V :=
  match agg with
  | true => .agg cs
  | false => match cs with
    | [c] => c
    | _ => .any
def rsV : (l : List RS) → RDen l → Nat → List V
  | [], _, _ => []
  | r :: rs, x, k => oneV r.agg (psV r.ps x.1 k) :: rsV rs x.2 (k + psN r.ps)
def rsH : (l : List RS) → RDen l → Nat → Heap
  | [], _, _ => []
  | r :: rs, x, k => psH r.ps x.1 k ++ rsH rs x.2 (k + psN r.ps)
def resV (l : List RS) (x : RDen l) (k : Nat) : V :=
  match rsV l x k with
  | [v] => v
  | vs => .tup vs

/-! ## Reading a result off what a body leaves -/
def ownL (h : Heap) (te : TypeId) (e : Ty) : V → Option (List e.den)
  | .nil => some []
  | .own id => match lookN h id with
    | some (.arr te' e' xs) => match Nat.beq te te' with
      | true => castL e' e xs
      | false => none
    | _ => none
  | _ => none
def readPs (h : Heap) : (l : List RK) → List V → Option (PDen l)
  | [], [] => some ()
  | .d t :: r, cs => match toDen h false t cs with
    | some (x, cs') => match readPs h r cs' with
      | some y => some (x, y)
      | none => none
    | none => none
  | .o te e :: r, c :: cs => match ownL h te e c with
    | some xs => match readPs h r cs with
      | some y => some (xs, y)
      | none => none
    | none => none
  | _, _ => none
def cellsOf (agg : Bool) (v : V) : Option (List V) :=
  match agg, v with
  | true, .agg cs => some cs
  | false, v => match v.one with
    | true => some [v]
    | false => none
  | _, _ => none
def readRs (h : Heap) : (l : List RS) → List V → Option (RDen l)
  | [], [] => some ()
  | r :: rs, v :: vs => match cellsOf r.agg v with
    | some cs => match readPs h r.ps cs with
      | some x => match readRs h rs vs with
        | some y => some (x, y)
        | none => none
      | none => none
    | none => none
  | _, _ => none
/-- The cells of the pieces that are data; those of the slices. -/
def dPs : List RK → List V → List V
  | [], _ => []
  | .d t :: r, cs => cs.take t.cells ++ dPs r (cs.drop t.cells)
  | .o _ _ :: r, cs => dPs r (cs.drop 1)
def oPs : List RK → List V → List V
  | [], _ => []
  | .d t :: r, cs => oPs r (cs.drop t.cells)
  | .o _ _ :: r, cs => cs.take 1 ++ oPs r (cs.drop 1)
def dRs : List RS → List V → List V
  | r :: rs, v :: vs => dPs r.ps v.cells ++ dRs rs vs
  | _, _ => []
def oRs : List RS → List V → List V
  | r :: rs, v :: vs => oPs r.ps v.cells ++ oRs rs vs
  | _, _ => []
def ownIds : List V → List Nat
  | [] => []
  | .own id :: r => id :: ownIds r
  | _ :: r => ownIds r
def partsOf (l : List RS) (v : V) : Option (List V) :=
  match l with
  | [_] => some [v]
  | _ => match v with
    | .tup vs => some vs
    | _ => none
def readRes (l : List RS) (v : V) (h : Heap) : Option (RDen l) :=
  match partsOf l v with
  | some vs => match nodupN (ownIds (oRs l vs)) && Nat.ble (oRs l vs).length 8 with
    | true => readRs (freezeAll h (dRs l vs)) l vs
    | false => none
  | none => none

/-! ## A pure function -/
structure PSpec where
  args : List AK
  res : List RS
  pre : ADen args → Prop
  fn : ADen args → RDen res
def Cx.at (P : Program) (w : World) (F : Nat → Prop) : Cx := ⟨P, w, fun _ => False, F, ([], 0), fun _ => undef, w, fun c => c < w.heap.size ∧ ¬ False⟩
def Gh.at (F : Nat → Prop) : Gh := ⟨fun _ => undef, F, fun _ => False⟩
def PSound (P : Program) (f : FuncId) (s : PSpec) : Prop :=
  ∀ (w : World) (F : Nat → Prop) (xs : ADen s.args) (vals : List Value), (∀ b, F b → b < w.heap.size) → RVs (Cx.at P w F) w (Gh.at F) (argsV s.args xs) vals → s.pre xs →
    Calls P f vals.toArray w fun e w' => ∃ x g', e = .returned x ∧ QRes (Cx.at P w F) w (Gh.at F) 0 (resV s.res (s.fn xs) 0) (rsH s.res (s.fn xs) 0) x w' g'

/-- What every datum that lies in memory is: its numbers of their kinds, its rows not too long. -/
def Good : (t : Ty) → t.den → Prop
  | .bool, _ => True
  | .int k, n => k.min ≤ n ∧ n ≤ k.max
  | .str, l => l.length ≤ maxLen
  | .slice e, xs => xs.length ≤ maxLen ∧ ∀ x ∈ xs, Good e x
  | .pair a b, x => Good a x.1 ∧ Good b x.2
def GoodA : (l : List AK) → ADen l → Prop
  | [], _ => True
  | .d t :: r, x => Good t x.1 ∧ GoodA r x.2
  | .bx t :: r, x => Good t x.1 ∧ GoodA r x.2
  | .lam _ _ :: r, x => GoodA r x.2
theorem rep_good {w : World} {F : Nat → Prop} : ∀ (t : Ty) (x : t.den) (cs : List Value), rep w F t x cs → Good t x
  | .bool, _, _, _ => trivial
  | .int k, n, cs, h => by simp only [rep] at h; exact h.2
  | .str, l, cs, h => by simp only [rep] at h; exact h.2
  | .slice e, xs, cs, h => by
    simp only [rep] at h
    obtain ⟨A, cap, _, h2, h3, _, h5⟩ := h
    refine ⟨by omega, fun x hx => ?_⟩
    obtain ⟨i, hi, rfl⟩ := List.mem_iff_getElem.1 hx
    obtain ⟨a, ci, _, _, _, h6⟩ := h5 i hi
    exact rep_good e _ ci h6
  | .pair a b, x, cs, h => by
    simp only [rep] at h
    obtain ⟨c1, c2, _, h1, h2⟩ := h
    exact ⟨rep_good a _ c1 h1, rep_good b _ c2 h2⟩

section
variable {C : Cx} {w w' : World} {g g' : Gh} {h : Heap} {T : Tab} {S : Specs} {N n : Nat} {keep : List (Nat × List Nat)}
theorem ofDen_good : ∀ (t : Ty) (y : t.den) (us : List Value), RVs C w g (ofDen t y) us → Good t y
  | .bool, _, _, _ => trivial
  | .int k, y, us, h => by
    simp only [ofDen, RVs, RV] at h
    obtain ⟨x, xs, _, h1, _⟩ := h
    exact h1.2
  | .str, y, us, h => by
    simp only [ofDen, RVs, RV] at h
    obtain ⟨x, xs, _, h1, _⟩ := h
    exact h1.2
  | .slice e, y, us, h => by
    simp only [ofDen, RVs, RV] at h
    obtain ⟨x, xs, _, h1, _⟩ := h
    exact rep_good _ _ _ h1
  | .pair a b, y, us, h => by
    simp only [ofDen] at h
    obtain ⟨us1, us2, rfl, h1, h2⟩ := RVs_split h
    exact ⟨ofDen_good a _ _ h1, ofDen_good b _ _ h2⟩
theorem vOfDen_good (t : Ty) (y : t.den) (u : Value) (h : RV C w g (vOfDen t y) u) : Good t y := by
  cases t with
  | pair a b =>
    simp only [vOfDen, RV] at h
    obtain ⟨vs, _, h2⟩ := h
    exact ofDen_good (.pair a b) y vs h2
  | bool => trivial
  | int k => exact ofDen_good (C := C) (w := w) (g := g) (.int k) y [u] (by simpa [ofDen, RVs, vOfDen] using h)
  | str => exact ofDen_good (C := C) (w := w) (g := g) .str y [u] (by simpa [ofDen, RVs, vOfDen] using h)
  | slice e => exact ofDen_good (C := C) (w := w) (g := g) (.slice e) y [u] (by simpa [ofDen, RVs, vOfDen] using h)
theorem argsV_good : ∀ (l : List AK) (x : ADen l) (us : List Value), RVs C w g (argsV l x) us → GoodA l x
  | [], _, _, _ => trivial
  | .d t :: r, x, us, h => by
    simp only [argsV, RVs] at h
    obtain ⟨u, us', _, h1, h2⟩ := h
    exact ⟨vOfDen_good t _ u h1, argsV_good r _ us' h2⟩
  | .bx t :: r, x, us, h => by
    simp only [argsV, RVs, AK.v, RV] at h
    obtain ⟨u, us', _, ⟨a, vs, _, _, _, h1⟩, h2⟩ := h
    exact ⟨ofDen_good t _ vs h1, argsV_good r _ us' h2⟩
  | .lam a b :: r, x, us, h => by
    simp only [argsV, RVs] at h
    obtain ⟨u, us', _, h1, h2⟩ := h
    exact argsV_good r _ us' h2

theorem cells_pos : ∀ (e : Ty), 0 < e.cells
  | .bool => Nat.one_pos
  | .int _ => Nat.one_pos
  | .str => Nat.one_pos
  | .slice _ => Nat.one_pos
  | .pair a b => by simp only [Ty.cells]; have := cells_pos a; omega

/-- The k-th slice's anchor. -/
def oAnch (g : Gh) (os : List V) (k : Nat) : Value :=
  match os[k]? with
  | some (.own id) => g.anch id
  | _ => .slice none 0 0

theorem toDen_split : ∀ (t : Ty) (cs : List V) (x : t.den) (r : List V), toDen h false t cs = some (x, r) → cs.drop t.cells = r ∧ t.cells ≤ cs.length
  | .bool, cs, x, r, hs => by
    cases cs with
    | nil => simp [toDen] at hs
    | cons c cs => cases c <;> simp [toDen] at hs <;> simp [Ty.cells, hs.2]
  | .int k, cs, x, r, hs => by
    cases cs with
    | nil => simp [toDen] at hs
    | cons c cs => cases c <;> simp [toDen] at hs <;> simp [Ty.cells, hs.2.2]
  | .str, cs, x, r, hs => by
    cases cs with
    | nil => simp [toDen] at hs
    | cons c cs => cases c <;> simp [toDen] at hs <;> simp [Ty.cells, hs.2]
  | .slice e, cs, x, r, hs => by
    cases cs with
    | nil => simp [toDen] at hs
    | cons c cs =>
      simp only [toDen] at hs
      split at hs
      · simp at hs; simp [Ty.cells, hs.2]
      · simp at hs
  | .pair a b, cs, x, r, hs => by
    simp only [toDen] at hs
    split at hs
    · rename_i y r1 h1
      split at hs
      · rename_i z r2 h2
        simp at hs
        obtain ⟨_, rfl⟩ := hs
        obtain ⟨e1, l1⟩ := toDen_split a cs y r1 h1
        obtain ⟨e2, l2⟩ := toDen_split b r1 z r2 h2
        refine ⟨by simp only [Ty.cells]; rw [← List.drop_drop, e1, e2], ?_⟩
        simp only [Ty.cells]
        rw [← e1] at l2
        simp at l2
        omega
      · simp at hs
    · simp at hs

/-- The pieces of one result, in the names that the caller gives them. -/
theorem readPs_sound {C' : Cx} (R : RelH C h w g) {g2 : Gh} {os : List V} (hA : ∀ k, g2.anch k = oAnch g os k) (hU2 : ∀ k, k < os.length → g2.U k) (hF : ∀ b, g.F b → g2.F b) (hM : ∀ (k i b : Nat), os[k]? = some (.own i) → ablk (g.anch i) = some b → MutOk C g b → MutOk C' g2 b) :
    ∀ (l : List RK) (cs : List V) (x : PDen l) (vs : List Value) (k : Nat), readPs h l cs = some x → RVs C w g cs vs → (∀ j c, (oPs l cs)[j]? = some c → os[k + j]? = some c) →
      RVs C' w g2 (psV l x k) vs ∧ (∀ id o, lookN (psH l x k) id = some o → k ≤ id ∧ id < k + psN l ∧ RO C' w g2 id o ∧ ∃ c, os[id]? = some c ∧ (c = .nil ∨ ∃ i te e xs, c = .own i ∧ lookN h i = some (.arr te e xs)))
  | [], cs, x, vs, k, hs, hv, ho => by
    cases cs with
    | nil => simp only [RVs] at hv; subst hv; exact ⟨by simp [psV, RVs], fun id o h => by simp [psH, lookN] at h⟩
    | cons c cs => simp [readPs] at hs
  | .d t :: r, cs, x, vs, k, hs, hv, ho => by
    simp only [readPs] at hs
    split at hs
    · rename_i y cs' hd
      split at hs
      · rename_i z hz
        simp at hs; subst hs
        obtain ⟨us, ts, rfl, h1, h2⟩ := toDen_sound R t cs y cs' vs hd hv
        obtain ⟨e1, _⟩ := toDen_split t cs y cs' hd
        have ih := readPs_sound R hA hU2 hF hM r cs' z ts k hz h2 (fun j c hc => ho j c (by simp only [oPs]; rw [e1]; exact hc))
        refine ⟨?_, ?_⟩
        · simp only [psV]
          refine RVs_append (RVs_ofDen t y us ?_) ih.1
          exact rep_mono (fun b hb => ⟨hF b (by simpa [Fown] using hb), rfl⟩) t y us h1
        · intro id o hid
          simp only [psH] at hid
          simpa [psN] using ih.2 id o hid
      · simp at hs
    · simp at hs
  | .o te e :: r, [], x, vs, k, hs, hv, ho => by simp [readPs] at hs
  | .o te e :: r, c :: cs, x, vs, k, hs, hv, ho => by
    simp only [readPs] at hs
    split at hs
    · rename_i xs hx
      split at hs
      · rename_i z hz
        simp at hs; subst hs
        simp only [RVs] at hv
        obtain ⟨v, vs', rfl, h1, h2⟩ := hv
        have hk : os[k]? = some c := by
          have := ho 0 c (by simp [oPs])
          simpa using this
        have hkl : k < os.length := (List.getElem?_eq_some_iff.1 hk).1
        have ih := readPs_sound R hA hU2 hF hM r cs z vs' (k + 1) hz h2 (fun j d hd => by
          have := ho (j + 1) d (by simp only [oPs]; simpa using hd)
          rw [show k + 1 + j = k + (j + 1) by omega]; exact this)
        have key : RV C' w g2 (.own k) v ∧ RO C' w g2 k (.arr te e xs) ∧ (c = .nil ∨ ∃ i te e xs, c = .own i ∧ lookN h i = some (.arr te e xs)) := by
          cases c <;> simp only [ownL] at hx
          all_goals try (simp at hx; done)
          case nil =>
            simp at hx; subst hx
            simp only [RV] at h1
            have ha : g2.anch k = .slice none 0 0 := by rw [hA]; simp [oAnch, hk]
            refine ⟨by simp only [RV]; exact ⟨hU2 k hkl, by rw [ha, h1], none, 0, 0, h1⟩, ?_, .inl rfl⟩
            simp only [RO]
            exact ⟨[], by rw [ha]; exact ⟨by simp, .inl ⟨rfl, rfl⟩⟩, rfl, cells_pos e, fun b hb => by rw [ha] at hb; simp [ablk] at hb⟩
          case own id =>
            split at hx
            · rename_i te' e' ys hl
              cases hb : Nat.beq te te'
              · simp [hb] at hx
              rw [hb] at hx
              obtain rfl := Nat.eq_of_beq_eq_true hb
              obtain ⟨rfl, hxs⟩ := castL_eq hx
              simp at hxs; subst hxs
              simp only [RV] at h1
              have ha : g2.anch k = g.anch id := by rw [hA]; simp [oAnch, hk]
              refine ⟨by simp only [RV]; exact ⟨hU2 k hkl, by rw [ha]; exact h1.2.1, h1.2.2⟩, ?_, .inr ⟨id, _, _, _, rfl, hl⟩⟩
              obtain ⟨cells, q1, q2, q3, q4⟩ := (R.obj id _ hl).2
              simp only [RO]
              exact ⟨cells, by rw [ha]; exact q1, reps_mono (fun b hb => ⟨hF b hb, rfl⟩) _ _ _ q2, q3, fun b hb => hM k id b hk (by rw [ha] at hb; exact hb) (q4 b (by rw [ha] at hb; exact hb))⟩
            · simp at hx
        refine ⟨by simp only [psV, RVs]; exact ⟨v, vs', rfl, key.1, ih.1⟩, fun id o hid => ?_⟩
        simp only [psH, lookN] at hid
        cases hb : Nat.beq k id
        · rw [hb] at hid
          obtain ⟨q1, q2, q3⟩ := ih.2 id o hid
          exact ⟨by omega, by simp only [psN]; omega, q3⟩
        · rw [hb] at hid
          obtain rfl := Nat.eq_of_beq_eq_true hb
          simp at hid; subst hid
          exact ⟨Nat.le_refl _, by simp only [psN]; omega, key.2.1, c, hk, key.2.2⟩
      · simp at hs
    · simp at hs

theorem oPs_len : ∀ (l : List RK) (cs : List V) (x : PDen l), readPs h l cs = some x → (oPs l cs).length = psN l
  | [], cs, x, hs => rfl
  | .d t :: r, cs, x, hs => by
    simp only [readPs] at hs
    split at hs
    · rename_i y cs' hd
      split at hs
      · rename_i z hz
        obtain ⟨e1, _⟩ := toDen_split t cs y cs' hd
        simp only [oPs, psN]
        rw [e1]
        exact oPs_len r cs' z hz
      · simp at hs
    · simp at hs
  | .o te e :: r, [], x, hs => by simp [readPs] at hs
  | .o te e :: r, c :: cs, x, hs => by
    simp only [readPs] at hs
    split at hs
    · split at hs
      · rename_i z hz
        simp only [oPs, psN]
        simpa [Nat.add_comm] using oPs_len r cs z hz
      · simp at hs
    · simp at hs

theorem cellsOf_eq {agg : Bool} {v : V} {cs : List V} (hs : cellsOf agg v = some cs) : v.cells = cs ∧ (agg = true → v = .agg cs) ∧ (agg = false → cs = [v] ∧ v.one = true) := by
  cases agg
  · simp only [cellsOf] at hs
    split at hs
    · rename_i ho
      simp at hs; subst hs
      refine ⟨?_, by simp, fun _ => ⟨rfl, ho⟩⟩
      cases v <;> simp [V.one] at ho <;> rfl
    · simp at hs
  · cases v <;> simp [cellsOf] at hs
    subst hs
    exact ⟨rfl, by simp, by simp⟩

theorem readRs_sound {C' : Cx} (R : RelH C h w g) {g2 : Gh} {os : List V} (hA : ∀ k, g2.anch k = oAnch g os k) (hU2 : ∀ k, k < os.length → g2.U k) (hF : ∀ b, g.F b → g2.F b) (hM : ∀ (k i b : Nat), os[k]? = some (.own i) → ablk (g.anch i) = some b → MutOk C g b → MutOk C' g2 b) :
    ∀ (l : List RS) (vs : List V) (x : RDen l) (us : List Value) (k : Nat), readRs h l vs = some x → RVs C w g vs us → (∀ j c, (oRs l vs)[j]? = some c → os[k + j]? = some c) →
      RVs C' w g2 (rsV l x k) us ∧ (∀ id o, lookN (rsH l x k) id = some o → k ≤ id ∧ id < k + rsN l ∧ RO C' w g2 id o ∧ ∃ c, os[id]? = some c ∧ (c = .nil ∨ ∃ i te e xs, c = .own i ∧ lookN h i = some (.arr te e xs)))
  | [], vs, x, us, k, hs, hv, ho => by
    cases vs with
    | nil => simp only [RVs] at hv; subst hv; exact ⟨by simp [rsV, RVs], fun id o h => by simp [rsH, lookN] at h⟩
    | cons c cs => simp [readRs] at hs
  | r :: rs, [], x, us, k, hs, hv, ho => by simp [readRs] at hs
  | r :: rs, v :: vs, x, us, k, hs, hv, ho => by
    simp only [readRs] at hs
    split at hs
    · rename_i cs hcs
      split at hs
      · rename_i y hy
        split at hs
        · rename_i z hz
          simp at hs; subst hs
          simp only [RVs] at hv
          obtain ⟨u, us', rfl, h1, h2⟩ := hv
          obtain ⟨c1, c2, c3⟩ := cellsOf_eq hcs
          have hlen := oPs_len r.ps cs y hy
          have ih := readRs_sound R hA hU2 hF hM rs vs z us' (k + psN r.ps) hz h2 (fun j c hc => by
            have := ho (psN r.ps + j) c (by
              simp only [oRs]
              rw [c1, List.getElem?_append_right (by omega), hlen, Nat.add_sub_cancel_left]; exact hc)
            rw [Nat.add_assoc]; exact this)
          have hos : ∀ j c, (oPs r.ps cs)[j]? = some c → os[k + j]? = some c := fun j c hc => by
            refine ho j c ?_
            simp only [oRs]
            rw [c1, List.getElem?_append_left (List.getElem?_eq_some_iff.1 hc).1]; exact hc
          have head : RV C' w g2 (oneV r.agg (psV r.ps y k)) u ∧ ∀ id o, lookN (psH r.ps y k) id = some o → k ≤ id ∧ id < k + psN r.ps ∧ RO C' w g2 id o ∧ ∃ c, os[id]? = some c ∧ (c = .nil ∨ ∃ i te e xs, c = .own i ∧ lookN h i = some (.arr te e xs)) := by
            cases hag : r.agg
            · obtain ⟨rfl, hone⟩ := c3 hag
              have p := readPs_sound R hA hU2 hF hM r.ps [v] y [u] k hy (by simp only [RVs]; exact ⟨u, [], rfl, h1, rfl⟩) hos
              refine ⟨?_, p.2⟩
              have hl := RVs_len p.1
              simp only [oneV]
              have p1 := p.1
              revert p1
              generalize psV r.ps y k = q at hl ⊢
              intro p1
              match q, hl, p1 with
              | [c], _, p1 => simpa [RVs] using p1
            · have := c2 hag
              subst this
              simp only [RV] at h1
              obtain ⟨ws, rfl, hws⟩ := h1
              have p := readPs_sound R hA hU2 hF hM r.ps cs y ws k hy hws hos
              exact ⟨by simp only [oneV, RV]; exact ⟨ws, rfl, p.1⟩, p.2⟩
          refine ⟨by simp only [rsV, RVs]; exact ⟨u, us', rfl, head.1, ih.1⟩, fun id o hid => ?_⟩
          simp only [rsH] at hid
          rw [lookN_app] at hid
          cases hq : lookN (psH r.ps y k) id with
          | some o' =>
            rw [hq] at hid; simp at hid; subst hid
            obtain ⟨q1, q2, q3⟩ := head.2 id o' hq
            exact ⟨q1, by simp only [rsN]; omega, q3⟩
          | none =>
            rw [hq] at hid
            obtain ⟨q1, q2, q3⟩ := ih.2 id o hid
            exact ⟨by omega, by simp only [rsN]; omega, q3⟩
        · simp at hs
      · simp at hs
    · simp at hs

theorem ownIds_mem : ∀ (os : List V) (k id : Nat), os[k]? = some (.own id) → id ∈ ownIds os
  | [], k, id, h => by simp at h
  | c :: os, 0, id, h => by simp at h; subst h; simp [ownIds]
  | c :: os, k + 1, id, h => by
    have := ownIds_mem os k id (by simpa using h)
    cases c <;> simp [ownIds, this]
theorem ownIds_inj : ∀ (os : List V), (ownIds os).Nodup → ∀ (k k' id : Nat), os[k]? = some (.own id) → os[k']? = some (.own id) → k = k'
  | [], _, k, k', id, h, _ => by simp at h
  | c :: os, hn, 0, 0, id, h, h' => rfl
  | c :: os, hn, 0, k' + 1, id, h, h' => by
    simp at h; subst h
    simp only [ownIds, List.nodup_cons] at hn
    exact absurd (ownIds_mem os k' id (by simpa using h')) hn.1
  | c :: os, hn, k + 1, 0, id, h, h' => by
    simp at h'; subst h'
    simp only [ownIds, List.nodup_cons] at hn
    exact absurd (ownIds_mem os k id (by simpa using h)) hn.1
  | c :: os, hn, k + 1, k' + 1, id, h, h' => by
    have hn' : (ownIds os).Nodup := by cases c <;> simp only [ownIds, List.nodup_cons] at hn <;> first | exact hn.2 | exact hn
    rw [ownIds_inj os hn' k k' id (by simpa using h) (by simpa using h')]

theorem nodupN_nodup : ∀ (l : List Nat), nodupN l = true → l.Nodup
  | [], _ => List.nodup_nil
  | a :: r, h => by
    simp only [nodupN] at h
    split at h
    · cases h
    · rename_i hm
      refine List.nodup_cons.2 ⟨fun hin => ?_, nodupN_nodup r h⟩
      rw [(memN_iff r a).2 hin] at hm; cases hm

theorem resV_rel {l : List RS} {x : RDen l} {k : Nat} {v : V} {vs : List V} {u : Value} (hp : partsOf l v = some vs) (hv : RV C w g v u) (hl : l.length = vs.length) (hr : ∀ us, RVs C w g vs us → RVs C w' g' (rsV l x k) us) : RV C w' g' (resV l x k) u := by
  have hlen : (rsV l x k).length = l.length := by
    clear hr hp hl
    induction l generalizing k with
    | nil => rfl
    | cons r rs ih => simp [rsV, ih]
  unfold partsOf at hp
  split at hp
  · simp at hp; subst hp
    have := hr [u] (by simp only [RVs]; exact ⟨u, [], rfl, hv, rfl⟩)
    unfold resV
    match hq : rsV _ x k, hlen with
    | [c], _ => rw [hq] at this; simpa [RVs] using this
  · rename_i hne
    cases v <;> simp at hp
    subst hp
    simp only [RV] at hv
    obtain ⟨us, rfl, hus⟩ := hv
    have := hr us hus
    unfold resV
    split
    · rename_i c hc
      rw [hc] at hlen
      match l, hlen with
      | [r], _ => exact absurd rfl (hne r)
    · simp only [RV]; exact ⟨us, rfl, this⟩

theorem readRs_len : ∀ (l : List RS) (vs : List V) (x : RDen l), readRs h l vs = some x → l.length = vs.length
  | [], [], _, _ => rfl
  | [], _ :: _, _, h => by simp [readRs] at h
  | _ :: _, [], _, h => by simp [readRs] at h
  | r :: rs, v :: vs, x, hs => by
    simp only [readRs] at hs
    split at hs
    · split at hs
      · split at hs
        · rename_i z hz; simp [readRs_len rs vs z hz]
        · simp at hs
      · simp at hs
    · simp at hs

theorem RelH.at (P : Program) (w : World) (F : Nat → Prop) (hF : ∀ b, F b → b < w.heap.size) : RelH (Cx.at P w F) [] w (Gh.at F) :=
  ⟨fun _ _ => rfl, Nat.le_refl _, rfl, rfl, rfl, hF, fun _ hb => .inl hb, fun j hj => absurd hj (List.not_mem_nil), ⟨fun b hb => ⟨hb, rfl⟩, Nat.le_refl _⟩, fun id o h => by simp [lookN] at h, fun id o id' o' b h => by simp [lookN] at h⟩

theorem argsV_len : ∀ (l : List AK) (x : ADen l), (argsV l x).length = l.length
  | [], _ => rfl
  | k :: r, x => by simp [argsV, argsV_len r x.2]

/-- The body shows it. -/
theorem psound {P : Program} (hpin : pinsOf keep = ([], 0)) (hT : TabOk P T) (hS : SpecsOk P S) (hmix : P.follows .mixedOrders = true) {f : FuncId} {fn : Func} (hf : P.funcs[f]? = some fn) {s : PSpec}
    (hok : (match fn.body with | some c => codeOk fn.ntmps c | none => false) = true) (hn : s.args.length ≤ fn.ntmps)
    (hs : ∀ xs, GoodA s.args xs → s.pre xs → vfun T S keep fn (argsV s.args xs) [] (fun v h' => readRes s.res v h' = some (s.fn xs))) : PSound P f s := by
  intro w F xs vals hF hv hpre
  have hl := RVs_len hv
  rw [argsV_len] at hl
  refine (vfun_sound (C := Cx.at P w F) (g := Gh.at F) hpin hT hS hmix hf hok (by omega) (hs xs (argsV_good _ _ _ hv) hpre) (RelH.at P w F hF) (fun id h => h.elim) hv).mono fun e w' ⟨v, h', x, g', hpost, he, R, hx⟩ => ?_
  refine ⟨x, ?_⟩
  unfold readRes at hpost
  split at hpost
  · rename_i vs hparts
    split at hpost
    · rename_i hchk
      simp only [Bool.and_eq_true] at hchk
      obtain ⟨F1, R1, e1, _⟩ := freezeAll_sound (w := w') (dRs s.res vs) h' g' R
      have hnd := nodupN_nodup _ hchk.1
      have hle : (oRs s.res vs).length ≤ 8 := Nat.le_of_ble_eq_true hchk.2
      let g2 : Gh := ⟨oAnch g' (oRs s.res vs), fun b => F b ∨ F1 b, fun k => k < (oRs s.res vs).length⟩
      have hM : ∀ b, MutOk (Cx.at P w F) ⟨g'.anch, F1, g'.U⟩ b → MutOk (Cx.at P w F) g2 b := fun b ⟨q1, q2⟩ => by
        refine ⟨q1, fun hb => ?_⟩
        rcases hb with hb | hb
        · have := hF b hb
          rcases q1 with q1 | q1
          · exact q1.elim
          · simp only [Cx.at] at q1; omega
        · exact q2 hb
      have hl1 := readRs_len _ _ _ hpost
      have main := fun us (hus : RVs (Cx.at P w F) w' ⟨g'.anch, F1, g'.U⟩ vs us) => readRs_sound (C' := Cx.at P w F) R1 (g2 := g2) (os := oRs s.res vs) (fun k => rfl) (fun k hk => hk) (fun b hb => .inr hb) (fun _ _ b _ _ => hM b) s.res vs (s.fn xs) us 0 hpost hus (fun j c hc => by rw [Nat.zero_add]; exact hc)
      have hval := resV_rel (g := ⟨g'.anch, F1, g'.U⟩) (g' := g2) hparts (RV_mono e1 v x hx) hl1 (fun us hus => (main us hus).1)
      -- there is a row of values
      obtain ⟨us, hus⟩ : ∃ us, RVs (Cx.at P w F) w' ⟨g'.anch, F1, g'.U⟩ vs us := by
        unfold partsOf at hparts
        split at hparts
        · simp at hparts; subst hparts
          exact ⟨[x], by simp only [RVs]; exact ⟨x, [], rfl, RV_mono e1 _ _ hx, rfl⟩⟩
        · cases v <;> simp at hparts
          subst hparts
          have := RV_mono e1 _ _ hx
          simp only [RV] at this
          obtain ⟨us, _, h2⟩ := this
          exact ⟨us, h2⟩
      have hobj := (main us hus).2
      have hblk : ∀ id c b, (oRs s.res vs)[id]? = some c → ablk (g2.anch id) = some b → ∃ i, c = .own i ∧ ablk (g'.anch i) = some b := fun id c b hc hb => by
        simp only [g2, oAnch, hc] at hb
        cases c <;> simp [ablk] at hb
        exact ⟨_, rfl, by simpa [ablk] using hb⟩
      refine ⟨g2, he, ⟨R.os, R.tape, R.output, R.size, fun k hk => R.keep k ⟨hk, fun h => h⟩⟩, fun b hb => .inl hb, fun b hb => ?_, fun id h => h.elim, fun id hid => .inr ⟨Nat.zero_le _, by simp only [g2] at hid; omega⟩, hval, fun id o ho => ?_, fun id o id' o' b h1 h2 m1 m2 hb1 hb2 => ?_⟩
      · rcases hb with hb | hb
        · exact .inl hb
        · rcases R1.Fin b hb with h1 | h1 | h1
          · exact .inl h1
          · exact h1.elim
          · exact .inr ⟨h1, R1.F b hb⟩
      · obtain ⟨q1, q2, q3, c, q4, q5⟩ := hobj id o ho
        have hid : id < (oRs s.res vs).length := (List.getElem?_eq_some_iff.1 q4).1
        refine ⟨⟨Nat.zero_le _, by omega⟩, hid, q3, fun b hb => ?_⟩
        cases hm : o.mut
        · exfalso
          have : ∀ (l : List RS) (y : RDen l) (k : Nat), lookN (rsH l y k) id = some o → o.mut = true := by
            have hps : ∀ (l : List RK) (y : PDen l) (k : Nat), lookN (psH l y k) id = some o → o.mut = true := by
              intro l
              induction l with
              | nil => intro y k h; simp [psH, lookN] at h
              | cons r rs ih =>
                intro y k h
                cases r with
                | d t => exact ih _ _ h
                | o te e =>
                  simp only [psH, lookN] at h
                  split at h
                  · simp at h; subst h; rfl
                  · exact ih _ _ h
            intro l
            induction l with
            | nil => intro y k h; simp [rsH, lookN] at h
            | cons r rs ih =>
              intro y k h
              simp only [rsH] at h
              rw [lookN_app] at h
              split at h
              · rename_i o' ho'
                simp at h; subst h
                exact hps _ _ _ ho'
              · exact ih _ _ h
          rw [this _ _ _ ho] at hm; cases hm
        · rcases (RO_block q3 hm hb).2.1 with h1 | h1
          · exact h1.elim
          · exact h1
      · obtain ⟨_, _, _, c, q4, q5⟩ := hobj id o h1
        obtain ⟨_, _, _, c', s4, s5⟩ := hobj id' o' h2
        obtain ⟨i, rfl, hi⟩ := hblk id c b q4 hb1
        obtain ⟨i', rfl, hi'⟩ := hblk id' c' b s4 hb2
        have hii : i = i' := by
          rcases q5 with q5 | ⟨j, te, e, ys, q5, q6⟩
          · cases q5
          rcases s5 with s5 | ⟨j', te', e', ys', s5, s6⟩
          · cases s5
          cases q5; cases s5
          exact R1.sep i _ i' _ b q6 s6 rfl rfl hi hi'
        subst hii
        exact ownIds_inj _ hnd _ _ _ q4 s4
    · simp at hpost
  · simp at hpost
end

theorem LoopVC.mk {pins : Pins} {round : St → (Ex → St → Prop) → Prop} {st : St} {K : Ex → St → Prop} {α : Type} (f : α → St) (inv : α → Prop) (μ : α → Nat) (a0 : α) (h1 : st = f a0) (h2 : inv a0)
    (h3 : ∀ a, inv a → Ev (round (f a) (fun e s => match e with
      | .normal => Leaf (∃ a', s = f a' ∧ inv a' ∧ μ a' < μ a)
      | .exit id => K (.exit id) s
      | .ret => K .ret s
      | .goto l => K (.goto l) s))) : LoopVC pins round st K := by
  unfold LoopVC
  exact ⟨α, f, inv, μ, a0, .inl h1, h2, fun a ha => (h3 a ha).out⟩
end Go.Eng
