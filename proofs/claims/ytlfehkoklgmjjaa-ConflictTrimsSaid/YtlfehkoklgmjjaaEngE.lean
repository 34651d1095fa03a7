import Derived.Test.YtlfehkoklgmjjaaEngD
/- Each operation does what the abstract step says: slices read, views, data. -/
set_option linter.unusedVariables false
set_option linter.unusedSimpArgs false
namespace Go.Eng
open Go.RowKit (Below)

section
variable {C : Cx} {w w' : World} {g g' : Gh} {h : Heap}

/-- Rows out of data in memory. -/
theorem rows_of {F : Nat → Prop} {e : Ty} {A : Option Addr} : ∀ (xs : List e.den) (k : Nat),
    (∀ i (hi : i < xs.length), ∃ a ci, A = some a ∧ F a.block ∧ (∀ (j : Nat) (v : Value), ci[j]? = some v → w.cell? (a.add ((k + i) * e.cells + j)) = some v) ∧ rep w F e xs[i] ci) →
    ∃ cells, reps w F e xs cells ∧ (∀ ad, A = some ad → ∀ (j : Nat) (u : Value), cells[j]? = some u → w.cell? (ad.add (k * e.cells + j)) = some u)
  | [], k, _ => ⟨[], rfl, fun _ _ _ _ h => by simp at h⟩
  | x :: xs, k, hx => by
    obtain ⟨a, c0, hA, _, hc0, hr0⟩ := hx 0 (by simp)
    obtain ⟨cells, h1, h2⟩ := rows_of xs (k + 1) (fun i hi => by
      obtain ⟨a, ci, h1, h2, h3, h4⟩ := hx (i + 1) (by simpa using hi)
      exact ⟨a, ci, h1, h2, fun j v hv => by rw [← h3 j v hv]; congr 2; rw [Nat.add_assoc, Nat.add_comm 1 i], by simpa using h4⟩)
    refine ⟨c0 ++ cells, ⟨c0, cells, rfl, by simpa using hr0, h1⟩, fun ad hadA j u hu => ?_⟩
    have hlen := rep_len e _ c0 hr0
    rw [hA] at hadA
    simp at hadA
    subst hadA
    by_cases hj : j < c0.length
    · rw [List.getElem?_append_left hj] at hu
      simpa using hc0 j u hu
    · rw [List.getElem?_append_right (by omega)] at hu
      have := h2 a hA _ u hu
      rw [← this]
      congr 2
      rw [Nat.add_mul]
      omega
theorem rep_of_rows {F : Nat → Prop} {e : Ty} {a : Addr} {cap : Nat} {xs : List e.den} {cells : List Value} (hr : reps w F e xs cells) (hF : F a.block) (hc : xs.length ≤ cap) (hm : cap ≤ maxLen)
    (hcell : ∀ (j : Nat) (u : Value), cells[j]? = some u → w.cell? (a.add j) = some u) : rep w F (.slice e) xs [.slice (some a) xs.length cap] := by
  simp only [rep]
  refine ⟨some a, cap, rfl, hc, hm, by simp, fun i hi => ?_⟩
  obtain ⟨ci, hrep, htk⟩ := reps_at e xs cells hr i hi
  refine ⟨a, ci, rfl, hF, fun j v hv => ?_, hrep⟩
  have hl := rep_len e _ ci hrep
  have hj : j < e.cells := by have := (List.getElem?_eq_some_iff.1 hv).1; omega
  rw [← htk, List.getElem?_take_of_lt hj, List.getElem?_drop] at hv
  exact hcell _ v hv

/-- What a slice value reads as, and where. -/
structure View (w : World) (F : Nat → Prop) (e : Ty) (xs : List e.den) (x : Value) (A : Option Addr) (cap : Nat) (cells : List Value) : Prop where
  val : x = .slice A xs.length cap
  rows : reps w F e xs cells
  le : xs.length ≤ cap
  max : cap ≤ maxLen
  nil : A = none → cap = 0
  cell : ∀ ad, A = some ad → ∀ (j : Nat) (u : Value), cells[j]? = some u → w.cell? (ad.add j) = some u
  blk : ∀ ad, A = some ad → xs ≠ [] → ad.block < w.heap.size

theorem view_of_rep (hF : ∀ b, g.F b → b < w.heap.size) {e : Ty} {xs : List e.den} {x : Value} (hr : rep w g.F (.slice e) xs [x]) : ∃ A cap cells, View w g.F e xs x A cap cells ∧ (∀ ad, A = some ad → xs ≠ [] → g.F ad.block) := by
  simp only [rep] at hr
  obtain ⟨A, cap, h1, h2, h3, h4, h5⟩ := hr
  obtain ⟨cells, h6, h7⟩ := rows_of (w := w) (F := g.F) (e := e) (A := A) xs 0 (fun i hi => by
    obtain ⟨a, ci, q1, q2, q3, q4⟩ := h5 i hi
    exact ⟨a, ci, q1, q2, fun j v hv => by rw [Nat.zero_add]; exact q3 j v hv, q4⟩)
  have hFb : ∀ ad, A = some ad → xs ≠ [] → g.F ad.block := fun ad hA hne => by
    obtain ⟨a, _, q1, q2, _⟩ := h5 0 (by cases xs; exact absurd rfl hne; simp)
    rw [hA] at q1; simp at q1; subst q1; exact q2
  exact ⟨A, cap, cells, ⟨by simpa using h1, h6, h2, h3, h4, fun ad hA j u hu => by simpa using h7 ad hA j u hu, fun ad hA hne => hF _ (hFb ad hA hne)⟩, hFb⟩

theorem view_of_arr {id : Nat} {te : TypeId} {e : Ty} {xs : List e.den} (ho : RO C w g id (.arr te e xs)) :
    ∃ A cap cells, View w g.F e xs (g.anch id) A cap cells := by
  obtain ⟨cells, h1, h2, h3, h4⟩ := ho
  rcases h1.2 with ⟨hv, hn⟩ | ⟨g', cap, cur, hv, _, hg, hnc, hm, hcs, htk⟩
  · have : xs = [] := List.eq_nil_of_length_eq_zero hn
    subst this
    simp only [reps] at h2
    subst h2
    exact ⟨none, 0, [], ⟨hv, rfl, by simp, by simp, fun _ => rfl, fun _ h => by simp at h, fun _ h => by simp at h⟩⟩
  · refine ⟨some ⟨g', 0, none⟩, cap, cells, ⟨hv, h2, hnc, hm, by simp, fun ad hA j u hu => ?_, fun ad hA _ => ?_⟩⟩
    · simp at hA; subst hA
      exact h1.cells (g := g') (by rw [hv]; rfl) j u hu
    · simp at hA; subst hA
      exact (Array.getElem?_eq_some_iff.1 hg).1

theorem viewL_sound (R : RelH C h w g) {own : Bool} {e : Ty} {v : V} {xs : List e.den} {x : Value} (hs : viewL h own e v = some xs) (hv : RV C w g v x) :
    ∃ A cap cells, View w g.F e xs x A cap cells ∧ (own = false → ∀ ad, A = some ad → xs ≠ [] → g.F ad.block) := by
  unfold viewL at hs
  cases v <;> simp only at hs
  all_goals try (simp at hs; done)
  case sl e' ys =>
    obtain ⟨rfl, hxs⟩ := castL_eq hs
    simp at hxs
    subst hxs
    simp only [RV] at hv
    obtain ⟨A, cap, cells, q1, q2⟩ := view_of_rep R.F hv
    exact ⟨A, cap, cells, q1, fun _ => q2⟩
  case nil =>
    simp only [Option.some.injEq] at hs
    subst hs
    simp only [RV] at hv
    exact ⟨none, 0, [], ⟨hv, rfl, by simp, by simp, fun _ => rfl, fun _ h => by simp at h, fun _ h => by simp at h⟩, fun _ _ h => by simp at h⟩
  case own id =>
    simp only [RV] at hv
    obtain ⟨hU, rfl, _⟩ := hv
    cases ho : lookN h id with
    | none => simp [ho] at hs
    | some o =>
      cases o <;> simp only [ho] at hs
      all_goals try (simp at hs; done)
      case arr te e' ys =>
        cases own
        · simp at hs
        · simp only at hs
          obtain ⟨rfl, hxs⟩ := castL_eq hs
          simp at hxs
          subst hxs
          obtain ⟨A, cap, cells, q1⟩ := view_of_arr (R.obj id _ ho).2
          exact ⟨A, cap, cells, q1, fun h => by simp at h⟩
      case ice e' ys =>
        obtain ⟨rfl, hxs⟩ := castL_eq hs
        simp at hxs
        subst hxs
        have := (R.obj id _ ho).2
        simp only [RO] at this
        obtain ⟨A, cap, cells, q1, q2⟩ := view_of_rep R.F this
        exact ⟨A, cap, cells, q1, fun _ => q2⟩

/-- The blocks that data lie in when a mutable slice may be among them. -/
def Fown (w : World) (g : Gh) (own : Bool) (b : Nat) : Prop := g.F b ∨ (own = true ∧ b < w.heap.size)
theorem Fown_of {own : Bool} : ∀ b, g.F b → Fown w g own b ∧ w.heap[b]? = w.heap[b]? := fun _ h => ⟨.inl h, rfl⟩

theorem View.rep {own : Bool} {e : Ty} {xs : List e.den} {x : Value} {A : Option Addr} {cap : Nat} {cells : List Value} (q : View w g.F e xs x A cap cells)
    (hb : own = false → ∀ ad, A = some ad → xs ≠ [] → g.F ad.block) : Eng.rep w (Fown w g own) (.slice e) xs [x] := by
  obtain ⟨rfl, h2, h3, h4, h5, h6, h7⟩ := q
  cases A with
  | none =>
    have hc := h5 rfl
    subst hc
    have : xs = [] := List.eq_nil_of_length_eq_zero (by omega)
    subst this
    simp only [Eng.rep]
    exact ⟨none, 0, rfl, by simp, by simp, fun _ => rfl, fun i hi => by simp at hi⟩
  | some ad =>
    by_cases hne : xs = []
    · subst hne
      simp only [Eng.rep]
      exact ⟨some ad, cap, rfl, by simp, h4, by simp, fun i hi => by simp at hi⟩
    · refine rep_of_rows (reps_mono Fown_of e xs cells h2) ?_ h3 h4 (h6 ad rfl)
      cases own
      · exact .inl (hb rfl ad rfl hne)
      · exact .inr ⟨rfl, h7 ad rfl hne⟩

theorem toDen_sound (R : RelH C h w g) {own : Bool} : ∀ (e : Ty) (cs : List V) (x : e.den) (r : List V) (vs : List Value), toDen h own e cs = some (x, r) → RVs C w g cs vs →
    ∃ us ts, vs = us ++ ts ∧ rep w (Fown w g own) e x us ∧ RVs C w g r ts
  | .bool, cs, x, r, vs, hs, hv => by
    cases cs with
    | nil => simp [toDen] at hs
    | cons c cs =>
      simp only [RVs] at hv
      obtain ⟨y, ys, rfl, h1, h2⟩ := hv
      cases c <;> simp [toDen] at hs
      all_goals
        obtain ⟨rfl, rfl⟩ := hs
        simp only [RV] at h1
        subst h1
        exact ⟨[_], ys, rfl, by simp [rep], h2⟩
  | .int k, cs, x, r, vs, hs, hv => by
    cases cs with
    | nil => simp [toDen] at hs
    | cons c cs =>
      simp only [RVs] at hv
      obtain ⟨y, ys, rfl, h1, h2⟩ := hv
      cases c <;> simp [toDen] at hs
      obtain ⟨rfl, rfl, rfl⟩ := hs
      simp only [RV] at h1
      obtain ⟨rfl, h3, h4⟩ := h1
      exact ⟨[_], ys, rfl, by simp [rep, h3, h4], h2⟩
  | .str, cs, x, r, vs, hs, hv => by
    cases cs with
    | nil => simp [toDen] at hs
    | cons c cs =>
      simp only [RVs] at hv
      obtain ⟨y, ys, rfl, h1, h2⟩ := hv
      cases c <;> simp [toDen] at hs
      obtain ⟨rfl, rfl⟩ := hs
      simp only [RV] at h1
      obtain ⟨rfl, h3⟩ := h1
      exact ⟨[_], ys, rfl, by simp [rep, h3], h2⟩
  | .slice e, cs, x, r, vs, hs, hv => by
    cases cs with
    | nil => simp [toDen] at hs
    | cons c cs =>
      simp only [RVs] at hv
      obtain ⟨y, ys, rfl, h1, h2⟩ := hv
      simp only [toDen] at hs
      cases hw : viewL h own e c with
      | none => simp [hw] at hs
      | some xs =>
        simp only [hw, Option.some.injEq, Prod.mk.injEq] at hs
        obtain ⟨rfl, rfl⟩ := hs
        obtain ⟨A, cap, cells, q1, q2⟩ := viewL_sound R hw h1
        exact ⟨[y], ys, rfl, q1.rep q2, h2⟩
  | .pair a b, cs, x, r, vs, hs, hv => by
    simp only [toDen] at hs
    cases ha : toDen h own a cs with
    | none => simp [ha] at hs
    | some p =>
      obtain ⟨x1, r1⟩ := p
      simp only [ha] at hs
      cases hb : toDen h own b r1 with
      | none => simp [hb] at hs
      | some p2 =>
        obtain ⟨x2, r2⟩ := p2
        simp only [hb, Option.some.injEq, Prod.mk.injEq] at hs
        obtain ⟨rfl, rfl⟩ := hs
        obtain ⟨us, ts, rfl, h1, h2⟩ := toDen_sound R a cs x1 r1 vs ha hv
        obtain ⟨us2, ts2, rfl, h3, h4⟩ := toDen_sound R b r1 x2 r2 ts hb h2
        exact ⟨us ++ us2, ts2, by rw [List.append_assoc], by simp only [rep]; exact ⟨us, us2, rfl, h1, h3⟩, h4⟩
/-- All of it, frozen data alone. -/
theorem toDen_all (R : RelH C h w g) {e : Ty} {cs : List V} {x : e.den} {vs : List Value} (hs : toDen h false e cs = some (x, [])) (hv : RVs C w g cs vs) : rep w g.F e x vs := by
  obtain ⟨us, ts, rfl, h1, h2⟩ := toDen_sound R e cs x [] vs hs hv
  simp only [RVs] at h2
  subst h2
  rw [List.append_nil]
  exact rep_mono (fun b hb => ⟨by simpa [Fown] using hb, rfl⟩) e x us h1

/-! ## Length, index, places -/
theorem wrap_len {n : Nat} (h : n ≤ maxLen) : IntKind.i64.min ≤ (n : Int) ∧ (n : Int) ≤ IntKind.i64.max := by
  simp only [maxLen] at h
  simp [IntKind.min, IntKind.max, IntKind.signed, IntKind.bits]; omega

theorem elem_of {P : Program} {T : Tab} (hT : TabOk P T) {t te : TypeId} {e : Ty} {bytes : Nat} {zero : List ZC} (h : elemT T t = some (te, e, bytes, zero)) :
    ∃ inf z, P.underlying t = some (.slice te) ∧ P.info? te = some inf ∧ inf.size = e.cells ∧ inf.bytes = bytes ∧ inf.zero = some z ∧ z.cells.toList.map zcOf = zero ∧ 0 < e.cells ∧ z.cells.size = e.cells ∧ rowOf P 8 te = some e := by
  unfold elemT at h
  cases hti : T.ti t with
  | none => simp [hti] at h
  | some i =>
    obtain ⟨d, size, bytes', zero', row, eqk⟩ := i
    obtain ⟨inf, u, z, g1, g2, g3, g4, g5⟩ := ti_of hT hti
    cases d <;> simp only [hti] at h
    all_goals try (simp at h; done)
    case slice te' =>
    obtain rfl := und_slice g4
    cases hte : T.ti te' with
    | none => simp [hte] at h
    | some ie =>
      obtain ⟨d2, size2, bytes2, zero2, row2, eq2⟩ := ie
      obtain ⟨inf2, u2, z2, k1, k2, k3, k4, k5, k6, k7, k8, k9⟩ := ti_of hT hte
      cases row2 with
      | none => simp [hte] at h
      | some e' =>
        simp only [hte] at h
        cases hb : (Nat.beq size2 e'.cells && Nat.blt 0 size2 && Nat.beq zero2.length size2)
        · simp [hb] at h
        · simp only [hb, Option.some.injEq, Prod.mk.injEq] at h
          obtain ⟨rfl, rfl, rfl, rfl⟩ := h
          simp only [Bool.and_eq_true] at hb
          have e1 := Nat.eq_of_beq_eq_true hb.1.1
          have e2 : 0 < size2 := by have := hb.1.2; simp [Nat.blt] at this; omega
          have e3 := Nat.eq_of_beq_eq_true hb.2
          refine ⟨inf2, z2, g2, k1, k5.trans e1, k6, k3, k7, by omega, ?_, k8⟩
          have k7' : z2.cells.toList.map zcOf = zero2 := k7
          have : z2.cells.toList.length = zero2.length := by rw [← k7']; simp
          simp only [Array.length_toList] at this
          omega
theorem isSliceD_of {u : TypeDesc} (h : isSliceD (tdOf u) = true) : ∃ e, u = .slice e := by
  cases u <;> simp [tdOf, isSliceD] at h; exact ⟨_, rfl⟩

theorem lenV_sound {P : Program} {T : Tab} (hT : TabOk P T) (R : RelH C h w g) {t : TypeId} {v r : V} {x : Value} {c : List Prop} {news : Heap} (hs : lenV T t v h = some (c, r, news)) (hv : RV C w g v x) {ty : TypeId} :
    news = [] ∧ ∃ val, (Builtin.len_ #[t] ty #[x]).run P w = .ok val w ∧ RV C w g r val := by
  unfold lenV at hs
  cases hti : T.ti t with
  | none => simp [hti] at hs
  | some i =>
    simp only [hti] at hs
    obtain ⟨inf, u, z, g1, g2, g3, g4, g5⟩ := ti_of hT hti
    have sl : ∀ (n : Nat) (A : Option Addr) (cap : Nat), isSliceD i.d = true → x = .slice A n cap → n ≤ maxLen → ∃ val, (Builtin.len_ #[t] ty #[x]).run P w = .ok val w ∧ RV C w g (.i .i64 (n : Int)) val := by
      intro n A cap hd hx hn
      rw [← g4] at hd
      obtain ⟨e, rfl⟩ := isSliceD_of hd
      subst hx
      exact ⟨.int .i64 (n : Int), by simp [Builtin.len_, run_underlying g2, goInt], by simp only [RV, true_and]; exact wrap_len hn⟩
    cases v <;> simp only at hs
    all_goals try (simp at hs; done)
    case s l =>
      cases hd : i.d <;> simp only [hd] at hs
      all_goals try (simp at hs; done)
      simp only [Option.some.injEq, Prod.mk.injEq] at hs
      obtain ⟨rfl, rfl, rfl⟩ := hs
      simp only [RV] at hv
      obtain ⟨rfl, hl⟩ := hv
      rw [hd] at g4
      obtain rfl := und_str g4
      refine ⟨rfl, .int .i64 (l.length : Int), ?_, by simp only [RV, true_and]; exact wrap_len hl⟩
      simp only [Builtin.len_]
      simp [run_underlying g2, goInt]
      rfl
    case sl e xs =>
      cases hd : isSliceD i.d <;> simp only [hd] at hs
      · simp at hs
      simp only [Option.some.injEq, Prod.mk.injEq] at hs
      obtain ⟨rfl, rfl, rfl⟩ := hs
      simp only [RV] at hv
      obtain ⟨A, cap, cells, q, _⟩ := view_of_rep R.F hv
      exact ⟨rfl, sl _ _ _ hd q.val (by have := q.le; have := q.max; omega)⟩
    case nil =>
      cases hd : isSliceD i.d <;> simp only [hd] at hs
      · simp at hs
      simp only [Option.some.injEq, Prod.mk.injEq] at hs
      obtain ⟨rfl, rfl, rfl⟩ := hs
      simp only [RV] at hv
      exact ⟨rfl, by simpa using sl 0 none 0 hd hv (by simp)⟩
    case own id =>
      simp only [RV] at hv
      obtain ⟨hU, rfl, _⟩ := hv
      cases hd : isSliceD i.d <;> simp only [hd] at hs
      · simp at hs
      cases ho : lookN h id with
      | none => simp [ho] at hs
      | some o =>
        cases o <;> simp only [ho] at hs
        all_goals try (simp at hs; done)
        case arr te e ys =>
          simp only [Option.some.injEq, Prod.mk.injEq] at hs
          obtain ⟨rfl, rfl, rfl⟩ := hs
          obtain ⟨A, cap, cells, q⟩ := view_of_arr (R.obj id _ ho).2
          exact ⟨rfl, sl _ _ _ hd q.val (by have := q.le; have := q.max; omega)⟩
        case ice e ys =>
          simp only [Option.some.injEq, Prod.mk.injEq] at hs
          obtain ⟨rfl, rfl, rfl⟩ := hs
          have := (R.obj id _ ho).2
          simp only [RO] at this
          obtain ⟨A, cap, cells, q, _⟩ := view_of_rep R.F this
          exact ⟨rfl, sl _ _ _ hd q.val (by have := q.le; have := q.max; omega)⟩

theorem two_conds {p q : Prop} {c : List Prop} (h : ∀ r ∈ [p, q], r) (_ : c = [p, q]) : p ∧ q := ⟨h p (by simp), h q (by simp)⟩

/-- A row of data in memory, pointed at. -/
theorem rp_of_view {e : Ty} {xs : List e.den} {x : Value} {A : Option Addr} {cap : Nat} {cells : List Value} (q : View w g.F e xs x A cap cells)
    (hF : ∀ ad, A = some ad → xs ≠ [] → g.F ad.block) {n : Nat} (hn : n < xs.length) :
    ∃ ad, A = some ad ∧ RV C w g (.rp (ofDen e (xs.getD n e.dflt))) (.pointer (some (ad.add (n * e.cells)))) := by
  obtain ⟨hval, h2, h3, h4, h5, h6, h7⟩ := q
  cases A with
  | none => have := h5 rfl; omega
  | some ad =>
    obtain ⟨ci, hrep, htk⟩ := reps_at e xs cells h2 n hn
    refine ⟨ad, rfl, ?_⟩
    simp only [RV]
    refine ⟨_, ci, rfl, ?_, fun j y hy => ?_, ?_⟩
    · rw [add_block]
      exact hF ad rfl (by intro h0; subst h0; simp at hn)
    · have hl := rep_len e _ ci hrep
      have hj : j < e.cells := by have := (List.getElem?_eq_some_iff.1 hy).1; omega
      rw [← htk, List.getElem?_take_of_lt hj, List.getElem?_drop] at hy
      rw [add_add]
      exact h6 ad rfl _ y hy
    · rw [getD_get _ _ _ hn]
      exact RVs_ofDen e _ ci hrep

theorem run_indexAt_slice {P : Program} {t te : TypeId} {inf : TypeInfo} {e : Ty} (h1 : P.underlying t = some (.slice te)) (h2 : P.info? te = some inf) (h3 : inf.size = e.cells)
    {ad : Addr} {n m c : Nat} {k : IntKind} (hn : n < m) :
    (Instr.indexAt t (.slice (some ad) m c) (.int k (n : Int))).run P w = .ok (.pointer (some (ad.add (n * e.cells)))) w := by
  simp [Instr.indexAt, asIntOf, run_underlying h1, sizeOf, typeInfo, h2, h3, hn]

theorem indexAddrV_sound {P : Program} {T : Tab} (hT : TabOk P T) (R : RelH C h w g) {t : TypeId} {a ix v : V} {x y : Value} {c : List Prop} {news : Heap}
    (hs : indexAddrV T t a ix h = some (c, v, news)) (hc : ∀ p ∈ c, p) (ha : RV C w g a x) (hi : RV C w g ix y) :
    news = [] ∧ ∃ val, (Instr.indexAt t x y).run P w = .ok val w ∧ RV C w g v val := by
  unfold indexAddrV at hs
  cases ix <;> simp only at hs
  all_goals try (simp at hs; done)
  rename_i k n
  simp only [RV] at hi
  obtain ⟨rfl, _, _⟩ := hi
  cases he : elemT T t with
  | some p =>
    obtain ⟨te, e, bytes, zero⟩ := p
    obtain ⟨inf, z, g1, g2, g3, _⟩ := elem_of hT he
    simp only [he] at hs
    have data : ∀ (xs : List e.den) (A : Option Addr) (cap : Nat) (cells : List Value), View w g.F e xs x A cap cells → (∀ ad, A = some ad → xs ≠ [] → g.F ad.block) → 0 ≤ n → n < xs.length →
        ∃ val, (Instr.indexAt t x (.int k n)).run P w = .ok val w ∧ RV C w g (.rp (ofDen e (xs.getD n.toNat e.dflt))) val := by
      intro xs A cap cells q hF h0 hn
      obtain ⟨m, rfl⟩ := Int.eq_ofNat_of_zero_le h0
      simp only [Int.toNat_natCast] at *
      have hn' : m < xs.length := by omega
      obtain ⟨ad, rfl, hrv⟩ := rp_of_view (C := C) q hF hn'
      rw [q.val]
      exact ⟨_, run_indexAt_slice g1 g2 g3 hn', hrv⟩
    cases a <;> simp only at hs
    all_goals try (simp at hs; done)
    case sl e' xs' =>
      cases hcast : castL e' e xs' with
      | none => simp [hcast] at hs
      | some xs =>
        simp only [hcast, Option.some.injEq, Prod.mk.injEq] at hs
        obtain ⟨rfl, rfl, rfl⟩ := hs
        obtain ⟨rfl, hxs⟩ := castL_eq hcast
        simp at hxs
        subst hxs
        simp only [RV] at ha
        obtain ⟨A, cap, cells, q, hF⟩ := view_of_rep R.F ha
        exact ⟨rfl, data _ A cap cells q hF (hc _ (by simp)) (hc _ (by simp))⟩
    case own id =>
      simp only [RV] at ha
      obtain ⟨hU, rfl, _⟩ := ha
      cases ho : lookN h id with
      | none => simp [ho] at hs
      | some o =>
        cases o <;> simp only [ho] at hs
        all_goals try (simp at hs; done)
        case arr te' e' xs' =>
          cases hcast : castL e' e xs' with
          | none => simp [hcast] at hs
          | some xs =>
            simp only [hcast, Option.some.injEq, Prod.mk.injEq] at hs
            obtain ⟨rfl, rfl, rfl⟩ := hs
            obtain ⟨rfl, hxs⟩ := castL_eq hcast
            simp at hxs
            subst hxs
            have h0 : 0 ≤ n := hc _ (by simp)
            have h1 : n < xs'.length := hc _ (by simp)
            obtain ⟨m, rfl⟩ := Int.eq_ofNat_of_zero_le h0
            obtain ⟨A, cap, cells, q⟩ := view_of_arr (R.obj id _ ho).2
            have hm : m < xs'.length := by simpa using h1
            cases A with
            | none => have := q.nil rfl; have := q.le; omega
            | some ad =>
              rw [q.val]
              refine ⟨rfl, _, run_indexAt_slice g1 g2 g3 hm, ?_⟩
              simp only [RV]
              exact ⟨hU, ad, _, _, q.val, by simp⟩
        case ice e' xs' =>
          cases hcast : castL e' e xs' with
          | none => simp [hcast] at hs
          | some xs =>
            simp only [hcast, Option.some.injEq, Prod.mk.injEq] at hs
            obtain ⟨rfl, rfl, rfl⟩ := hs
            obtain ⟨rfl, hxs⟩ := castL_eq hcast
            simp at hxs
            subst hxs
            have hr := (R.obj id _ ho).2
            simp only [RO] at hr
            obtain ⟨A, cap, cells, q, hF⟩ := view_of_rep R.F hr
            exact ⟨rfl, data _ A cap cells q hF (hc _ (by simp)) (hc _ (by simp))⟩
  | none =>
    simp only [he] at hs
    cases hti : T.ti t with
    | none => simp [hti] at hs
    | some i =>
      obtain ⟨d, size, bytes, zero, row, eqk⟩ := i
      obtain ⟨inf, u, z, g1, g2, g3, g4, g5⟩ := ti_of hT hti
      cases d <;> simp only [hti] at hs
      all_goals try (simp at hs; done)
      case arr m te =>
      obtain rfl := und_arr g4
      cases hte : T.ti te with
      | none => simp [hte] at hs
      | some ie =>
        obtain ⟨inf2, u2, z2, k1, k2, k3, k4, k5, _⟩ := ti_of hT hte
        cases a <;> simp only [hte] at hs
        all_goals try (simp at hs; done)
        rename_i id col
        cases n with
        | negSucc q => simp at hs
        | ofNat q =>
          simp only at hs
          cases hb : Nat.blt q m
          · simp [hb] at hs
          · simp only [hb, Option.some.injEq, Prod.mk.injEq] at hs
            obtain ⟨rfl, rfl, rfl⟩ := hs
            have hq : q < m := by simp [Nat.blt] at hb; omega
            simp only [RV] at ha ⊢
            obtain ⟨hU, ad, h1, rfl⟩ := ha
            refine ⟨trivial, .pointer (some ((ad.add col).add (q * ie.size))), ?_, hU, ad, h1, by rw [add_add]⟩
            simp [Instr.indexAt, asIntOf, run_underlying g2, Instr.sureAddr, sizeOf, typeInfo, k1, k5, hq]

theorem indexV_sound {P : Program} {ix a v : V} {x y : Value} {c : List Prop} {t : TypeId} (hu : P.underlying t = some .string) (hs : indexV ix a = some (c, v)) (hc : ∀ p ∈ c, p) (ha : RV C w g a x) (hi : RV C w g ix y) :
    ∃ val, (Instr.index t x y).run P w = .ok val w ∧ RV C w g v val := by
  unfold indexV at hs
  cases a <;> cases ix <;> simp only at hs
  all_goals try (simp at hs; done)
  rename_i l k n
  simp only [Option.some.injEq, Prod.mk.injEq] at hs
  obtain ⟨rfl, rfl⟩ := hs
  simp only [RV] at ha hi
  obtain ⟨rfl, _⟩ := ha
  obtain ⟨rfl, _, _⟩ := hi
  have h0 : 0 ≤ n := hc _ (by simp)
  have h1 : n < l.length := hc _ (by simp)
  obtain ⟨m, rfl⟩ := Int.eq_ofNat_of_zero_le h0
  have hm : m < l.length := by simpa using h1
  refine ⟨.int .u8 ((l.getD m 0).toNat : Int), ?_, ?_⟩
  · have hg : (⟨⟨l⟩⟩ : ByteArray)[m]? = some l[m] := by
      have : m < (⟨⟨l⟩⟩ : ByteArray).size := hm
      rw [getElem?_pos _ m this]
      rfl
    simp [Instr.index, asIntOf, run_underlying hu, hg, List.getD, List.getElem?_eq_getElem hm]
  · simp only [RV, Int.toNat_natCast, true_and]
    have := (l.getD m 0).toNat_lt
    generalize (l.getD m 0).toNat = q at *
    simp [IntKind.min, IntKind.max, IntKind.signed, IntKind.bits]; omega
end
end Go.Eng
