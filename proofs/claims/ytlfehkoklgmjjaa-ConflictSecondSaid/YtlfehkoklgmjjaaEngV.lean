import Derived.Test.YtlfehkoklgmjjaaEngJ
import Derived.MapKept
import Derived.Carry
import Derived.Lib.AppendZerosOnto
/- Each operation does what the abstract step says: slices with their room, maps. -/
set_option linter.unusedVariables false
set_option linter.unusedSimpArgs false
namespace Go.Eng
open Go.RowKit (Below)

section
variable {C : Cx} {w w' : World} {g g' : Gh} {h : Heap} {P : Program} {T : Tab} {fresh : Nat}

theorem conj_out' : ∀ {cs : List Prop} {K : Prop}, conj cs K → (∀ p ∈ cs, p) ∧ K
  | [], K, h => ⟨by simp, h⟩
  | c :: cs, K, h => by
    rw [conj_cons] at h
    obtain ⟨h1, h2⟩ := h
    obtain ⟨h3, h4⟩ := conj_out' h2.out
    exact ⟨fun p hp => by
      rcases List.mem_cons.1 hp with rfl | hp
      · exact h1.out
      · exact h3 p hp, h4⟩
/-! ## Reading and writing rows -/
theorem rawRow {id : Nat} {te : TypeId} {e : Ty} {xs : List (Option e.den)} (ho : RO C w g id (.raw te e xs)) {ad : Addr} {n c : Nat} (ha : g.anch id = .slice (some ad) n c) :
    ∃ blk cur, ad = ⟨blk, 0, none⟩ ∧ c = xs.length ∧ w.heap[blk]? = some (.cells cur te (0, 0)) ∧ xs.length ≤ maxLen ∧ cur.size = xs.length * e.cells ∧ rawRep w g.F e xs cur.toList ∧ MutOk C g blk := by
  obtain ⟨_, ⟨h1, _⟩ | ⟨blk, m, cur, h1, h2, h3, h4, h5, h6, h7⟩⟩ := ho
  · rw [ha] at h1; simp at h1
  · rw [ha] at h1; simp at h1
    obtain ⟨rfl, rfl, rfl⟩ := h1
    exact ⟨blk, cur, rfl, rfl, h2, h4, h5, h6, h7⟩
theorem rawRep_at {e : Ty} {xs : List (Option e.den)} {cs : List Value} {F : Nat → Prop} (hr : rawRep w F e xs cs) {row : Nat} (hs : (xs.getD row none).isSome = true) :
    rep w F e ((xs.getD row none).getD e.dflt) ((cs.drop (row * e.cells)).take e.cells) ∧ row < xs.length := by
  obtain ⟨x, hx⟩ := Option.isSome_iff_exists.1 hs
  rw [List.getD_eq_getElem?_getD] at hx
  cases hq : xs[row]? with
  | none => rw [hq] at hx; simp at hx
  | some y =>
    rw [hq] at hx
    simp only [Option.getD_some] at hx
    subst hx
    refine ⟨?_, (List.getElem?_eq_some_iff.1 hq).1⟩
    rw [List.getD_eq_getElem?_getD, hq]
    simpa using hr row x hq
theorem loadR_sound (hT : TabOk P T) (R : RelH C h w g) {t : TypeId} {a v : V} {x : Value} {c : List Prop} {news : Heap}
    (hs : loadR T t a h = some (c, v, news)) (hc : ∀ p ∈ c, p) (ha : RV C w g a x) :
    news = [] ∧ ∃ val, (Instr.loadAt t x).run P w = .ok val w ∧ RV C w g v val := by
  unfold loadR at hs
  cases hi : T.ti t with
  | none => simp [hi] at hs
  | some i =>
    simp only [hi] at hs
    cases a <;> simp only at hs
    all_goals try (simp at hs; done)
    case ep id e row col =>
      simp only [RV] at ha
      obtain ⟨hU, ad, n, cp, h1, rfl⟩ := ha
      cases ho : lookN h id with
      | none => simp [ho] at hs
      | some o =>
        cases o <;> simp only [ho] at hs
        all_goals try (simp at hs; done)
        rename_i te e' xs'
        cases hcast : castO e' e xs' with
        | none => simp [hcast] at hs
        | some xs =>
          simp only [hcast] at hs
          obtain ⟨rfl, hxs⟩ := castO_eq hcast
          simp at hxs
          subst hxs
          cases hb : Nat.ble (col + i.size) e'.cells
          · simp [hb] at hs
          · simp only [hb] at hs
            have hle := Nat.le_of_ble_eq_true hb
            obtain ⟨hm, rfl, rfl⟩ := mkR_some hs
            have hsome : (xs'.getD row none).isSome = true := hc _ (by simp)
            refine ⟨rfl, ?_⟩
            obtain ⟨blk, cur, rfl, rfl, q1, q2, q3, q4, q5⟩ := rawRow (R.obj id _ ho).2 h1
            obtain ⟨hrep, hrow⟩ := rawRep_at q4 hsome
            have hvs := RVs_take i.size (RVs_drop col (RVs_ofDen (C := C) e' _ _ hrep))
            obtain ⟨val, hr, hv⟩ := run_loadVar_cells hT hi (a0 := (⟨blk, 0, none⟩ : Addr).add (row * e'.cells + col)) hvs (fun j y hy => by
              have hj : j < i.size := by
                have hlt := (List.getElem?_eq_some_iff.1 hy).1
                simp at hlt; omega
              rw [List.getElem?_take_of_lt hj, List.getElem?_drop, List.getElem?_take_of_lt (by omega), List.getElem?_drop] at hy
              rw [add_add, addr_add, cell_of_row w blk _ _ _ _ q1]
              rw [← hy]
              simp only [Array.getElem?_toList]
              congr 1
              omega) (by simp [ofDen_len]; omega) hm
            exact ⟨val, by simp [Instr.loadAt, Instr.sureAddr, hr], hv⟩

theorem indexR_sound (hT : TabOk P T) {t : TypeId} {a ix v : V} {x y : Value} {c : List Prop} {news : Heap}
    (hs : indexR T t a ix = some (c, v, news)) (hc : ∀ p ∈ c, p) (ha : RV C w g a x) (hi : RV C w g ix y) :
    news = [] ∧ ∃ val, (Instr.indexAt t x y).run P w = .ok val w ∧ RV C w g v val := by
  unfold indexR at hs
  split at hs
  · rename_i id e lo n fl k i
    cases he : elemT T t with
    | none => simp [he] at hs
    | some p =>
      obtain ⟨te, e', bytes, zero⟩ := p
      obtain ⟨inf, z, g1, g2, g3, _⟩ := elem_of hT he
      simp only [he] at hs
      split at hs
      · rename_i heq _
        subst heq
        simp only [Option.some.injEq, Prod.mk.injEq] at hs
        obtain ⟨rfl, rfl, rfl⟩ := hs
        have h0 : 0 ≤ i := hc _ (by simp)
        have h1 : i < n := hc _ (by simp)
        obtain ⟨m, rfl⟩ := Int.eq_ofNat_of_zero_le h0
        simp only [RV] at ha hi
        obtain ⟨hU, A, m', c', A', c2, e1, e6, e7, rfl, e2, e3, e4, e5⟩ := ha
        obtain ⟨rfl, _, _⟩ := hi
        have hA : A' = A.map (·.add (lo * e'.cells)) := by
          rcases e5 with e5 | e5
          · omega
          · exact e5
        cases A with
        | none => have := e6 rfl; omega
        | some ad =>
          simp only [Option.map_some] at hA
          subst hA
          refine ⟨rfl, _, run_indexAt_slice g1 g2 g3 (by omega), ?_⟩
          simp only [RV]
          refine ⟨hU, ad, m', c', e1, ?_⟩
          rw [add_add, Int.toNat_natCast, Nat.add_zero, Nat.add_mul]
      · simp at hs
  · simp at hs

theorem run_sliceBounds3 (isS : Bool) (len cap : Nat) (lo : Option Value) {a b m : Nat} {k2 k3 : IntKind} (hlo : lo = none ∧ a = 0 ∨ ∃ k, lo = some (.int k (a : Int)))
    (h1 : a ≤ b) (h2 : b ≤ m) (h3 : m ≤ cap) : (Instr.sliceBounds isS len cap lo (some (.int k2 (b : Int))) (some (.int k3 (m : Int)))).run P w = .ok (a, b, m) w := by
  have e0 : ∀ (k : IntKind) (code : BoundsCode), (Instr.sliceBound (.int k (m : Int)) cap code).run P w = .ok m w := fun k code => by
    simp [Instr.sliceBound, asIntOf, h3]
  have e1 : ∀ (k : IntKind) (code : BoundsCode), (Instr.sliceBound (.int k (b : Int)) m code).run P w = .ok b w := fun k code => by
    simp [Instr.sliceBound, asIntOf, h2]
  have e2 : ∀ (k : IntKind) (code : BoundsCode), (Instr.sliceBound (.int k (a : Int)) b code).run P w = .ok a w := fun k code => by
    simp [Instr.sliceBound, asIntOf, h1]
  rcases hlo with ⟨rfl, rfl⟩ | ⟨k1, rfl⟩ <;> simp [Instr.sliceBounds, e0, e1, e2]
theorem cut_addr {A : Option Addr} {c' a q : Nat} {A' : Option Addr} {k : Nat} (h : (c' = 0 ∧ q ≠ 0) ∨ A' = A.map (·.add (q * k))) (m : Nat) (ha : a ≤ m) (hm : m ≤ c') :
    (m - a = 0 ∧ q + a ≠ 0) ∨ (if m = a then A' else A'.map (·.add (a * k))) = A.map (·.add ((q + a) * k)) := by
  by_cases he : m = a
  · rw [if_pos he]
    by_cases h0 : a = 0
    · subst h0
      rcases h with h | h
      · left; omega
      · right; simpa using h
    · left; omega
  · right
    rw [if_neg he]
    rcases h with h | h
    · omega
    · subst h
      cases A with
      | none => rfl
      | some ad => simp only [Option.map_some, add_add, Nat.add_mul]
theorem raw_cap {id : Nat} {te : TypeId} {e : Ty} {xs : List (Option e.den)} (ho : RO C w g id (.raw te e xs)) {A : Option Addr} {n c : Nat} (ha : g.anch id = .slice A n c) : c = xs.length ∧ n ≤ xs.length := by
  obtain ⟨_, ⟨h1, h2⟩ | ⟨blk, m, cur, h1, h2, h3, h4, h5, h6, h7⟩⟩ := ho
  · rw [ha] at h1; simp at h1; subst h2; simp [h1]
  · rw [ha] at h1; simp at h1; obtain ⟨_, rfl, rfl⟩ := h1; exact ⟨rfl, h3⟩
theorem sliceR_sound (hT : TabOk P T) (R : RelH C h w g) {t : TypeId} {a v : V} {x : Value} {lo hi mx : Option V} {lx hx mxx : Option Value} {c : List Prop} {news : Heap}
    (hs : sliceR T t a lo hi mx h = some (c, v, news)) (hc : ∀ p ∈ c, p) (ha : RV C w g a x) (hlo : OptRel C w g lo lx) (hhi : OptRel C w g hi hx) (hmx : OptRel C w g mx mxx) :
    news = [] ∧ ∃ val, (Instr.sliceAt t x lx hx mxx).run P w = .ok val w ∧ RV C w g v val := by
  unfold sliceR at hs
  cases he : elemT T t with
  | none => simp [he] at hs
  | some p =>
    obtain ⟨te, e', bytes, zero⟩ := p
    obtain ⟨inf, z, g1, g2, g3, _⟩ := elem_of hT he
    simp only [he] at hs
    have toA : ∀ {A : Int}, optInt lo 0 = some A → 0 ≤ A → ∃ a : Nat, A = a ∧ (lx = none ∧ a = 0 ∨ ∃ k, lx = some (.int k (a : Int))) := by
      intro A h1 h3
      obtain ⟨a, rfl⟩ := Int.eq_ofNat_of_zero_le h3
      refine ⟨a, rfl, ?_⟩
      rcases optInt_rel h1 hlo with ⟨q1, q2⟩ | q
      · exact .inl ⟨q1, by omega⟩
      · exact .inr q
    have toB : ∀ {n : Nat} {B : Int}, optInt hi n = some B → 0 ≤ B → ∃ b : Nat, B = b ∧ (hx = none ∧ b = n ∨ ∃ k, hx = some (.int k (b : Int))) := by
      intro n B h2 h3
      obtain ⟨b, rfl⟩ := Int.eq_ofNat_of_zero_le h3
      refine ⟨b, rfl, ?_⟩
      rcases optInt_rel h2 hhi with ⟨q1, q2⟩ | q
      · exact .inl ⟨q1, by omega⟩
      · exact .inr q
    have isv : ∀ {o : Option V} {x : Option Value} {k : IntKind} {m : Int}, OptRel C w g o x → o = some (.i k m) → x = some (.int k m) := by
      intro o x k m hr ho
      rcases hr with ⟨h1, _⟩ | ⟨v, y, h1, h2, h3⟩
      · rw [h1] at ho; simp at ho
      · rw [h1] at ho
        simp only [Option.some.injEq] at ho
        subst ho
        simp only [RV] at h3
        rw [h2, h3.1]
    have toI : ∀ {v : V} {d : Int} {B : Int}, optInt (some v) d = some B → ∃ k, v = .i k B := by
      intro v d B hb
      cases v <;> simp only [optInt] at hb
      all_goals try (simp at hb; done)
      simp only [Option.some.injEq] at hb
      subst hb
      exact ⟨_, rfl⟩
    cases a <;> (try simp only at hs)
    all_goals try (simp at hs; done)
    case nil =>
      simp only [RV] at ha
      subst ha
      split at hs
      · rename_i a b h1 h2
        simp only [Option.some.injEq, Prod.mk.injEq] at hs
        obtain ⟨rfl, rfl, rfl⟩ := hs
        have c1 : a = 0 := hc _ (by simp)
        have c2 : b = 0 := hc _ (by simp)
        subst c1; subst c2
        obtain ⟨a1, q1, n1⟩ := toA h1 (by omega)
        obtain ⟨b1, q2, n2⟩ := toB (n := 0) h2 (by omega)
        obtain rfl : a1 = 0 := by omega
        obtain rfl : b1 = 0 := by omega
        rcases hmx with ⟨_, rfl⟩ | ⟨_, _, h0, _⟩
        · have hb := run_sliceBounds (P := P) (w := w) true 0 0 lx hx n1 n2 (Nat.le_refl _) (Nat.le_refl _)
          refine ⟨rfl, .slice none 0 0, ?_, by simp [RV]⟩
          simp [Instr.sliceAt, Instr.slice, run_underlying g1, hb, sizeOf, typeInfo, g2, g3]
        · simp at h0
      · simp at hs
    case vw id e lo0 n fl =>
      cases fl <;> simp only at hs
      · simp at hs
      split at hs
      · rename_i heq te2 e2 xs a0 b0 _ ho hA hB
        subst heq
        simp only [RV] at ha
        obtain ⟨hU, A, m0, c0, A', c', e1, e6, e7, rfl, e2', e3, e4, e5⟩ := ha
        obtain ⟨rfl, hn0⟩ := raw_cap (R.obj id _ ho).2 e1
        have e4 := e4 trivial
        split at hs
        · -- no bound
          simp only [Option.some.injEq, Prod.mk.injEq] at hs
          obtain ⟨rfl, rfl, rfl⟩ := hs
          have c1 : 0 ≤ a0 := hc _ (by simp)
          have c2 : a0 ≤ b0 := hc _ (by simp)
          have c3 : (lo0 : Int) + b0 ≤ xs.length := hc _ (by simp)
          obtain ⟨a1, rfl, n1⟩ := toA hA c1
          obtain ⟨b1, rfl, n2⟩ := toB hB (by omega)
          rcases hmx with ⟨_, rfl⟩ | ⟨_, _, h0, _⟩
          · have hb := run_sliceBounds (P := P) (w := w) true n c' lx hx n1 n2 (by omega) (by omega)
            refine ⟨rfl, .slice (if c' = a1 then A' else A'.map (·.add (a1 * e'.cells))) (b1 - a1) (c' - a1), ?_, ?_⟩
            · simp [Instr.sliceAt, Instr.slice, run_underlying g1, hb, sizeOf, typeInfo, g2, g3]
            · simp only [RV, Int.toNat_natCast]
              refine ⟨hU, A, m0, _, _, _, e1, e6, e7, ?_, ?_, ?_, fun _ => ?_, cut_addr e5 c' (by omega) (Nat.le_refl _)⟩
              · congr 1; omega
              · omega
              · omega
              · omega
          · simp at h0
        · rename_i mk m
          split at hs
          · rename_i hv
            simp only [Option.some.injEq, Prod.mk.injEq] at hs
            obtain ⟨rfl, rfl, rfl⟩ := hs
            have c1 : 0 ≤ a0 := hc _ (by simp)
            have c2 : a0 ≤ b0 := hc _ (by simp)
            have c3 : b0 ≤ m := hc _ (by simp)
            have c4 : (lo0 : Int) + m ≤ xs.length := hc _ (by simp)
            obtain ⟨a1, rfl, n1⟩ := toA hA c1
            obtain ⟨b1, rfl⟩ := Int.eq_ofNat_of_zero_le (Int.le_trans c1 c2)
            obtain ⟨m1, rfl⟩ := Int.eq_ofNat_of_zero_le (show 0 ≤ m by omega)
            obtain ⟨k2, rfl⟩ := toI hB
            have hhx := isv hhi rfl
            have hmxx := isv hmx rfl
            subst hhx; subst hmxx
            have hb := run_sliceBounds3 (P := P) (w := w) true n c' lx (k2 := k2) (k3 := mk) n1 (show a1 ≤ b1 by omega) (show b1 ≤ m1 by omega) (show m1 ≤ c' by omega)
            refine ⟨rfl, .slice (if m1 = a1 then A' else A'.map (·.add (a1 * e'.cells))) (b1 - a1) (m1 - a1), ?_, ?_⟩
            · simp [Instr.sliceAt, Instr.slice, run_underlying g1, hb, sizeOf, typeInfo, g2, g3]
            · simp only [RV, Int.toNat_natCast]
              refine ⟨hU, A, m0, _, _, _, e1, e6, e7, ?_, ?_, ?_, fun h => by simp at h, cut_addr e5 m1 (by omega) (by omega)⟩
              · congr 1; omega
              · omega
              · omega
          · simp at hs
        · simp at hs
      · simp at hs
    case own id =>
      simp only [RV] at ha
      obtain ⟨hU, rfl, _⟩ := ha
      split at hs
      · rename_i te2 e2 xs mk m hv ho
        split at hs
        · rename_i heq a0 b0 _ hA hB
          subst heq
          simp only [Option.some.injEq, Prod.mk.injEq] at hs
          obtain ⟨rfl, rfl, rfl⟩ := hs
          have c1 : 0 ≤ a0 := hc _ (by simp)
          have c2 : a0 ≤ b0 := hc _ (by simp)
          have c3 : b0 ≤ m := hc _ (by simp)
          have c4 : m ≤ xs.length := hc _ (by simp)
          obtain ⟨a1, rfl, n1⟩ := toA hA c1
          obtain ⟨b1, rfl⟩ := Int.eq_ofNat_of_zero_le (Int.le_trans c1 c2)
          obtain ⟨m1, rfl⟩ := Int.eq_ofNat_of_zero_le (show 0 ≤ m by omega)
          obtain ⟨k2, rfl⟩ := toI hB
          have hhx := isv hhi rfl
          have hmxx := isv hmx rfl
          subst hhx; subst hmxx
          obtain ⟨A, cap, cells, q⟩ := view_of_arr (R.obj id _ ho).2
          have hle := q.le
          have hb := run_sliceBounds3 (P := P) (w := w) true xs.length cap lx (k2 := k2) (k3 := mk) n1 (show a1 ≤ b1 by omega) (show b1 ≤ m1 by omega) (show m1 ≤ cap by omega)
          refine ⟨rfl, .slice (if m1 = a1 then A else A.map (·.add (a1 * e2.cells))) (b1 - a1) (m1 - a1), ?_, ?_⟩
          · rw [q.val]
            simp [Instr.sliceAt, Instr.slice, run_underlying g1, hb, sizeOf, typeInfo, g2, g3]
          · simp only [RV, Int.toNat_natCast]
            refine ⟨hU, A, xs.length, cap, (if m1 = a1 then A else A.map (·.add (a1 * e2.cells))), m1 - a1, q.val, q.nil, q.max, ?_, ?_, ?_, fun h => by simp at h, ?_⟩
            · congr 1; omega
            · omega
            · omega
            · have := cut_addr (A := A) (A' := A) (c' := cap) (q := 0) (k := e2.cells) (a := a1) (.inr (by cases A <;> simp [Addr.add])) m1 (by omega) (by omega)
              simpa using this
        · simp at hs
      · simp at hs

theorem lenR_sound (hT : TabOk P T) (R : RelH C h w g) {t : TypeId} {v r : V} {x : Value} {c : List Prop} {news : Heap} (hs : lenR T t v = some (c, r, news)) (hv : RV C w g v x) {ty : TypeId} :
    news = [] ∧ ∃ val, (Builtin.len_ #[t] ty #[x]).run P w = .ok val w ∧ RV C w g r val := by
  unfold lenR at hs
  cases hti : T.ti t with
  | none => simp [hti] at hs
  | some i =>
    simp only [hti] at hs
    obtain ⟨inf, u, z, g1, g2, g3, g4, g5⟩ := ti_of hT hti
    split at hs
    · rename_i id e lo n fl hd
      simp only [Option.some.injEq, Prod.mk.injEq] at hs
      obtain ⟨rfl, rfl, rfl⟩ := hs
      rw [← g4] at hd
      obtain ⟨te, rfl⟩ := isSliceD_of hd
      simp only [RV] at hv
      obtain ⟨hU, A, m0, c0, A', c', e1, e6, e7, rfl, e2, e3, _⟩ := hv
      exact ⟨rfl, .int .i64 (n : Int), by simp [Builtin.len_, run_underlying g2, goInt], by simp only [RV, true_and]; exact wrap_len (by omega)⟩
    · simp at hs

theorem capR_sound (hT : TabOk P T) (R : RelH C h w g) {t : TypeId} {v r : V} {x : Value} {c : List Prop} {news : Heap} (hs : capR T t v h = some (c, r, news)) (hv : RV C w g v x) {ty : TypeId} :
    news = [] ∧ ∃ val, (Builtin.cap_ #[t] ty #[x]).run P w = .ok val w ∧ RV C w g r val := by
  unfold capR at hs
  cases hti : T.ti t with
  | none => simp [hti] at hs
  | some i =>
    simp only [hti] at hs
    obtain ⟨inf, u, z, g1, g2, g3, g4, g5⟩ := ti_of hT hti
    split at hs
    · rename_i id e lo n hd
      split at hs
      · rename_i te e2 xs ho
        simp only [Option.some.injEq, Prod.mk.injEq] at hs
        obtain ⟨rfl, rfl, rfl⟩ := hs
        rw [← g4] at hd
        obtain ⟨te, rfl⟩ := isSliceD_of hd
        simp only [RV] at hv
        obtain ⟨hU, A, m0, c0, A', c', e1, e6, e7, rfl, e2, e3, e4, _⟩ := hv
        obtain ⟨rfl, _⟩ := raw_cap (R.obj id _ ho).2 e1
        have e4 := e4 trivial
        refine ⟨rfl, .int .i64 (c' : Int), by simp [Builtin.cap_, run_underlying g2, goInt], ?_⟩
        have := wrap_len (show c' ≤ maxLen by omega)
        simp only [RV]
        refine ⟨?_, ?_, ?_⟩
        · congr 1; omega
        · rw [show (xs.length : Int) - (lo : Int) = (c' : Int) by omega]; exact this.1
        · rw [show (xs.length : Int) - (lo : Int) = (c' : Int) by omega]; exact this.2
      · simp at hs
    · rename_i hd
      simp only [Option.some.injEq, Prod.mk.injEq] at hs
      obtain ⟨rfl, rfl, rfl⟩ := hs
      rw [← g4] at hd
      obtain ⟨te, rfl⟩ := isSliceD_of hd
      simp only [RV] at hv
      subst hv
      exact ⟨rfl, .int .i64 0, by simp [Builtin.cap_, run_underlying g2, goInt], by simp [RV, IntKind.min, IntKind.max, IntKind.signed, IntKind.bits]⟩
    · simp at hs

/-! ## Rows put side by side -/
section
variable {e : Ty} {F : Nat → Prop}
theorem rawRep_append {xs ys : List (Option e.den)} {cs ds : List Value} (hx : rawRep w F e xs cs) (hl : cs.length = xs.length * e.cells) (hy : rawRep w F e ys ds) : rawRep w F e (xs ++ ys) (cs ++ ds) := by
  intro i x hi
  by_cases hlt : i < xs.length
  · rw [List.getElem?_append_left hlt] at hi
    have := hx i x hi
    have hm : (i + 1) * e.cells ≤ xs.length * e.cells := Nat.mul_le_mul_right _ hlt
    rw [Nat.add_mul, Nat.one_mul] at hm
    rw [List.drop_append_of_le_length (by omega), List.take_append_of_le_length (by simp; omega)]
    exact this
  · rw [List.getElem?_append_right (by omega)] at hi
    have := hy _ x hi
    have hm : xs.length * e.cells ≤ i * e.cells := Nat.mul_le_mul_right _ (by omega)
    rw [List.drop_append, List.drop_eq_nil_of_le (by omega), List.nil_append, hl, ← Nat.sub_mul]
    exact this
theorem rawRep_take {xs : List (Option e.den)} {cs : List Value} (hx : rawRep w F e xs cs) (n : Nat) : rawRep w F e (xs.take n) (cs.take (n * e.cells)) := by
  intro i x hi
  have hlt : i < n := by
    have := (List.getElem?_eq_some_iff.1 hi).1
    simp at this; omega
  rw [List.getElem?_take_of_lt hlt] at hi
  have hm : (i + 1) * e.cells ≤ n * e.cells := Nat.mul_le_mul_right _ hlt
  rw [Nat.add_mul, Nat.one_mul] at hm
  rw [List.drop_take, List.take_take, Nat.min_eq_left (by omega)]
  exact hx i x hi
theorem rawRep_drop {xs : List (Option e.den)} {cs : List Value} (hx : rawRep w F e xs cs) (n : Nat) : rawRep w F e (xs.drop n) (cs.drop (n * e.cells)) := by
  intro i x hi
  rw [List.getElem?_drop] at hi
  rw [List.drop_drop, ← Nat.add_mul]
  exact hx _ x hi
theorem rawRep_some {ys : List e.den} {cs : List Value} (hy : reps w F e ys cs) : rawRep w F e (ys.map some) cs := by
  intro i x hi
  rw [List.getElem?_map] at hi
  cases hq : ys[i]? with
  | none => rw [hq] at hi; simp at hi
  | some y =>
    rw [hq] at hi
    simp at hi
    subst hi
    obtain ⟨hlt, rfl⟩ := List.getElem?_eq_some_iff.1 hq
    obtain ⟨ci, h1, h2⟩ := reps_at e ys cs hy i hlt
    rw [h2]; exact h1
theorem rawRep_none (m : Nat) (cs : List Value) : rawRep w F e (List.replicate m none) cs := by
  intro i x hi
  rw [List.getElem?_replicate] at hi
  split at hi <;> simp at hi
theorem mul_len {a b k : Nat} (h : a ≤ b) : a * k ≤ b * k := Nat.mul_le_mul_right _ h
/-- Rows laid over others. -/
theorem rawRep_splice {xs : List (Option e.den)} {cs ns : List Value} {ys : List e.den} (hx : rawRep w F e xs cs) (hl : cs.length = xs.length * e.cells) (hy : reps w F e ys ns) {lo : Nat} (hle : lo + ys.length ≤ xs.length) :
    rawRep w F e (xs.take lo ++ ys.map some ++ xs.drop (lo + ys.length)) (cs.take (lo * e.cells) ++ ns ++ cs.drop (lo * e.cells + ns.length)) := by
  have hn := reps_len e ys ns hy
  have h1 := mul_len (k := e.cells) (show lo ≤ xs.length by omega)
  refine rawRep_append (rawRep_append (rawRep_take hx lo) (by simp; rw [Nat.min_eq_left (by omega), Nat.min_eq_left (by omega)]) (rawRep_some hy)) ?_ ?_
  · rw [List.length_append, List.length_append, List.length_map, hn, List.length_take, List.length_take, Nat.add_mul, Nat.min_eq_left (by omega), Nat.min_eq_left (by omega)]
  · rw [hn, ← Nat.add_mul]; exact rawRep_drop hx _
/-- All known rows, as rows. -/
theorem rawRep_all : ∀ {xs : List (Option e.den)} {cs : List Value}, rawRep w F e xs cs → cs.length = xs.length * e.cells → xs.all Option.isSome = true → reps w F e (xs.map fun r => r.getD e.dflt) cs
  | [], cs, _, hl, _ => by
    simp at hl
    subst hl; rfl
  | x :: xs, cs, hr, hl, ha => by
    simp only [List.all_cons, Bool.and_eq_true] at ha
    obtain ⟨y, rfl⟩ := Option.isSome_iff_exists.1 ha.1
    have h0 := hr 0 y (by simp)
    rw [Nat.zero_mul, List.drop_zero] at h0
    have ih := rawRep_all (xs := xs) (cs := cs.drop e.cells) (by have := rawRep_drop hr 1; simpa using this) (by simp [hl, Nat.add_mul]) ha.2
    exact ⟨cs.take e.cells, cs.drop e.cells, (List.take_append_drop _ _).symm, h0, ih⟩
end

theorem raw_cells {id : Nat} {te : TypeId} {e : Ty} {xs : List (Option e.den)} (ho : RO C w g id (.raw te e xs)) {lo n : Nat} {A : Option Addr} {m c : Nat} (ha : g.anch id = .slice A m c) (hn : 0 < lo + n) (hle : lo + n ≤ c) :
    ∃ blk cur, A = some ⟨blk, 0, none⟩ ∧ c = xs.length ∧ w.heap[blk]? = some (.cells cur te (0, 0)) ∧ xs.length ≤ maxLen ∧ cur.size = xs.length * e.cells ∧ rawRep w g.F e xs cur.toList ∧ MutOk C g blk := by
  cases A with
  | none =>
    obtain ⟨_, ⟨h1, h2⟩ | ⟨blk, m', cur, h1, _⟩⟩ := ho
    · rw [ha] at h1; simp at h1; omega
    · rw [ha] at h1; simp at h1
  | some ad =>
    obtain ⟨blk, cur, rfl, rfl, q⟩ := rawRow ho ha
    exact ⟨blk, cur, rfl, rfl, q⟩
theorem add0 (b n : Nat) : (⟨b, 0, none⟩ : Addr).add n = ⟨b, n, none⟩ := by rw [addr_add, Nat.zero_add]

theorem rowsOf_sound (R : RelH C h w g) {e : Ty} {v : V} {x : Value} {c : List Prop} {ys : List e.den} (hs : rowsOf h e v = some (c, ys)) (hc : ∀ p ∈ c, p) (hv : RV C w g v x) :
    ∃ A cap cells, View w g.F e ys x A cap cells := by
  unfold rowsOf at hs
  split at hs
  · rename_i id e' lo n fl
    simp only [RV] at hv
    obtain ⟨hU, A, m0, c0, A', c', e1, e6, e7, rfl, e2, e3, e4, e5⟩ := hv
    have empty : n = 0 → ys.length = 0 → ∃ A cap cells, View w g.F e ys (.slice A' n c') A cap cells := fun hn hy => by
      have : ys = [] := List.eq_nil_of_length_eq_zero hy
      subst this; subst hn
      refine ⟨A', c', [], ⟨rfl, rfl, Nat.zero_le _, by omega, fun ha => ?_, fun _ _ _ _ h => by simp at h, fun _ _ h => absurd rfl h⟩⟩
      rcases e5 with h | h
      · exact h.1
      · subst h
        cases A with
        | none => have := e6 rfl; omega
        | some ad => simp at ha
    split at hs
    · rename_i te e'' xs' ho
      split at hs
      · rename_i xs heq hcast _
        simp only [Option.some.injEq, Prod.mk.injEq] at hs
        obtain ⟨rfl, rfl⟩ := hs
        subst heq
        obtain ⟨rfl, hxs⟩ := castO_eq hcast
        simp at hxs
        subst hxs
        have hall : ((xs'.drop lo).take n).all Option.isSome = true := hc _ (by simp)
        have hO := (R.obj id _ ho).2
        by_cases hn : n = 0
        · exact empty hn (by simp [hn])
        · obtain ⟨blk, cur, rfl, rfl, q1, q2, q3, q4, q5⟩ := raw_cells hO e1 (lo := lo) (n := n) (by omega) (by omega)
          have hA : A' = some ⟨blk, lo * e''.cells, none⟩ := by
            rcases e5 with h | h
            · omega
            · rw [h]; simp [add0]
          subst hA
          have hlen : ((xs'.drop lo).take n).length = n := by simp; omega
          have hrows := rawRep_all (rawRep_take (rawRep_drop q4 lo) n) (by
            rw [List.length_take, List.length_drop, hlen, Array.length_toList, q3, ← Nat.sub_mul]
            exact Nat.min_eq_left (mul_len (by omega))) hall
          refine ⟨_, c', _, ⟨by rw [List.length_map, hlen], hrows, by rw [List.length_map, hlen]; exact e3, by omega, fun h => by simp at h, fun ad had j u hu => ?_, fun ad had _ => ?_⟩⟩
          · simp at had; subst had
            have hj : j < n * e''.cells := by
              have := (List.getElem?_eq_some_iff.1 hu).1
              simp at this; omega
            rw [List.getElem?_take_of_lt hj, List.getElem?_drop] at hu
            rw [addr_add, cell_of_row w blk _ _ _ _ q1]
            rw [← hu]; simp
          · simp at had; subst had
            exact (Array.getElem?_eq_some_iff.1 q1).1
      · simp at hs
    · rename_i te e'' xs' ho
      split at hs
      · rename_i xs heq hcast _
        simp only [Option.some.injEq, Prod.mk.injEq] at hs
        obtain ⟨rfl, rfl⟩ := hs
        subst heq
        obtain ⟨rfl, hxs⟩ := castL_eq hcast
        simp at hxs
        subst hxs
        have hle : lo + n ≤ xs'.length := hc _ (by simp)
        by_cases hn : n = 0
        · exact empty hn (by simp [hn])
        · obtain ⟨A2, cap2, cells2, q⟩ := view_of_arr (R.obj id _ ho).2
          have hv2 := q.val
          rw [e1] at hv2
          simp at hv2
          obtain ⟨rfl, rfl, rfl⟩ := hv2
          cases A with
          | none => have := e6 rfl; omega
          | some ad =>
          have hA : A' = some (ad.add (lo * e''.cells)) := by
            rcases e5 with h | h
            · omega
            · rw [h]; rfl
          subst hA
          have hlen : ((xs'.drop lo).take n).length = n := by simp; omega
          have hcl := reps_len _ _ _ q.rows
          have hr := reps_take _ _ _ (reps_drop _ _ _ q.rows lo) n
          refine ⟨_, c', _, ⟨by rw [hlen], hr, by rw [hlen]; exact e3, by omega, fun h => by simp at h, fun ad' had j u hu => ?_, fun ad' had _ => ?_⟩⟩
          · simp at had; subst had
            have hj : j < n * e''.cells := by
              have := (List.getElem?_eq_some_iff.1 hu).1
              simp at this; omega
            rw [List.getElem?_take_of_lt hj, List.getElem?_drop] at hu
            rw [add_add]
            exact q.cell ad rfl _ u hu
          · simp at had; subst had
            rw [add_block]
            exact q.blk ad rfl (fun h0 => by subst h0; simp at hle; omega)
      · simp at hs
    · simp at hs
  · cases hvw : viewL h true e v with
    | none => simp [hvw] at hs
    | some zs =>
      simp only [hvw, Option.some.injEq, Prod.mk.injEq] at hs
      obtain ⟨rfl, rfl⟩ := hs
      obtain ⟨A, cap, cells, q, _⟩ := viewL_sound R hvw hv
      exact ⟨A, cap, cells, q⟩

theorem RelH.look {h2 : Heap} (R : RelH C h w g) (hl : ∀ k, lookN h2 k = lookN h k) : RelH C h2 w g :=
  ⟨R.keep, R.size, R.os, R.tape, R.output, R.F, R.Fin, R.pin, R.lam, fun id o ho => R.obj id o (by rw [← hl]; exact ho), fun id o id' o' b h1 h2 => R.sep id o id' o' b (by rw [← hl]; exact h1) (by rw [← hl]; exact h2)⟩
theorem RelH.same (R : RelH C h w g) {id : Nat} {o : Obj} (ho : lookN h id = some o) : RelH C (setObj h id o) w g :=
  R.look fun k => by
    rw [lookN_setObj]
    by_cases hk : k = id
    · subst hk; simp [ho]
    · rw [if_neg hk]
/-- Rows of one's own slice written. -/
theorem RelH.rows (R : RelH C h w g) {id : Nat} {te : TypeId} {e : Ty} {xs xs' : List (Option e.den)} (ho : lookN h id = some (.raw te e xs)) {blk m : Nat} {cur : Array Value} (ha : g.anch id = .slice (some ⟨blk, 0, none⟩) m xs.length)
    (hg : w.heap[blk]? = some (.cells cur te (0, 0))) {cs : List Value} (hl : xs'.length = xs.length) (hcl : cs.length = cur.size) (hrep : rawRep w g.F e xs' cs) :
    RelH C (setObj h id (.raw te e xs')) (w.setRow blk cs.toArray) g ∧ Evo w g (w.setRow blk cs.toArray) g := by
  have hO := (R.obj id _ ho).2
  have hO' := hO
  obtain ⟨hc0, ⟨h1, _⟩ | ⟨blk2, m2, cur2, h1, h2, h3, h4, h5, h6, h7⟩⟩ := hO'
  · rw [ha] at h1; simp at h1
  · rw [ha] at h1; simp at h1
    obtain ⟨rfl, rfl⟩ := h1
    rw [hg] at h2
    simp at h2
    subst h2
    refine R.write ho rfl rfl (blk := blk) (by rw [ha]; rfl) (fun b hb => setRow_other w blk b _ hb) (by simp [World.setRow]) rfl rfl rfl (fun ev => ?_)
    refine ⟨hc0, .inr ⟨blk, m, cs.toArray, by rw [ha, hl], setRow_heap w blk _ _ te _ hg, by omega, by omega, ?_, ?_, h7⟩⟩
    · rw [List.size_toArray, hcl, h5, hl]
    · simpa using rawRep_mono ev.F hrep

theorem storeR_sound (hT : TabOk P T) (R : RelH C h w g) {t : TypeId} {a v r : V} {x y : Value} {c : List Prop} {h' : Heap} (hs : storeR T t a v h = some (c, r, h')) (hc : ∀ p ∈ c, p)
    (ha : RV C w g a x) (hv : RV C w g v y) : ∃ w' g', (Instr.storeAt t x y).run P w = .ok () w' ∧ WRes C w g fresh .any h' undef w' g' := by
  unfold storeR at hs
  cases hti : T.ti t with
  | none => simp [hti] at hs
  | some i =>
    obtain ⟨inf, u, z, g1, g2, g3, g4, g5, g6⟩ := ti_of hT hti
    simp only [hti] at hs
    cases hb : (Nat.beq v.cells.length i.size && v.cells.all V.one)
    · simp [hb] at hs
    simp only [hb] at hs
    simp only [Bool.and_eq_true] at hb
    have hlen := Nat.eq_of_beq_eq_true hb.1
    have hcv := RV_cells hv hb.2
    have hone := RVs_one hb.2 hcv
    have hsz : y.cells.size = inf.size := by have := RVs_len hcv; simp at this; omega
    split at hs
    · rename_i id e row
      simp only [RV] at ha
      obtain ⟨hU, ad, n, cp, h1, rfl⟩ := ha
      obtain ⟨F', R1, e1, _⟩ := freezeAll_sound (w := w) v.cells h g R
      split at hs
      · rename_i te e' xs' ho1
        split at hs
        · rename_i xs hcast hsize
          obtain ⟨rfl, hxs⟩ := castO_eq hcast
          simp at hxs
          subst hxs
          have hse := Nat.eq_of_beq_eq_true hsize
          split at hs
          · rename_i yv hden
            simp only [Option.some.injEq, Prod.mk.injEq] at hs
            obtain ⟨rfl, rfl, rfl⟩ := hs
            have hrow : row < xs'.length := hc _ (by simp)
            have h1' : (⟨g.anch, F', g.U⟩ : Gh).anch id = g.anch id := rfl
            have hcv1 := RVs_mono e1 _ _ hcv
            have hden' := toDen_all R1 hden hcv1
            obtain ⟨blk, cur, rfl, rfl, q1, q2, q3, q4, q5⟩ := rawRow (R1.obj id _ ho1).2 (h1'.trans h1)
            have hrl := mul_len (k := e'.cells) (show row + 1 ≤ xs'.length by omega)
            rw [Nat.add_mul, Nat.one_mul] at hrl
            have hrun := run_storeVar_at (P := P) (w := w) g1 (o := row * e'.cells) q1 hsz (by omega) hone
            have hsp := rawRep_splice (ys := [yv]) q4 (by simpa using q3) ⟨_, [], (List.append_nil _).symm, hden', rfl⟩ (lo := row) (by simp; omega)
            have hxs : xs'.take row ++ [yv].map some ++ xs'.drop (row + [yv].length) = xs'.set row (some yv) := by
              rw [List.set_eq_take_append_cons_drop, if_pos hrow]; simp
            rw [hxs] at hsp
            have hyl : y.cells.toList.length = y.cells.size := by simp
            obtain ⟨R', e2⟩ := R1.rows (xs' := xs'.set row (some yv)) ho1 (h1'.trans h1) q1 (by simp) (cs := cur.toList.take (row * e'.cells) ++ y.cells.toList ++ cur.toList.drop (row * e'.cells + y.cells.toList.length)) (by simp; omega) hsp
            rw [hyl] at R' e2
            refine ⟨_, ⟨g.anch, F', g.U⟩, ?_, R', e1.trans e2, by simp [RV], fun id h => .inl h⟩
            simp only [Instr.storeAt, Instr.sureAddr, add0, Nat.add_zero]
            simp [hrun]
          · simp at hs
        · simp at hs
      · simp at hs
    · simp at hs

theorem run_copy_zero {t ty te : TypeId} {inf : TypeInfo} (g1 : P.underlying t = some (.slice te)) (g2 : P.info? te = some inf) {e : Ty} {F : Nat → Prop} {A : Option Addr} {n c : Nat} {ys : List e.den} {x : Value} {A2 : Option Addr} {cap : Nat} {cells : List Value} (q : View w F e ys x A2 cap cells) (hz : min ys.length n = 0) :
    (Builtin.copy_ #[t, t] ty #[.slice A n c, x]).run P w = .ok (.int .i64 ((min ys.length n : Nat) : Int)) w := by
  rw [q.val]
  have hz' : Nat.min ys.length n = 0 := hz
  cases A2 <;> cases A <;> simp [Builtin.copy_, run_underlying g1, Builtin.lenOf, Builtin.firstCells, sizeOf, typeInfo, g2, goInt, hz', loadCells, loadCellsFrom, storeCells]
theorem run_copy_at {te : TypeId} {e : Ty} {inf : TypeInfo} {t ty : TypeId} (g1 : P.underlying t = some (.slice te)) (g2 : P.info? te = some inf) (g3 : inf.size = e.cells)
    {ys : List e.den} {x : Value} {ncells : List Value} {A : Option Addr} {cap : Nat} {F : Nat → Prop} {gg o n dcap : Nat} {cur : Array Value} (hg : w.heap[gg]? = some (.cells cur te (0, 0))) (hfit : o + n * e.cells ≤ cur.size) (q : View w F e ys x A cap ncells) :
    (Builtin.copy_ #[t, t] ty #[.slice (some ⟨gg, o, none⟩) n dcap, x]).run P w = .ok (.int .i64 ((min ys.length n : Nat) : Int))
      (w.setRow gg (cur.toList.take o ++ ncells.take (min ys.length n * e.cells) ++ cur.toList.drop (o + min ys.length n * e.cells)).toArray) := by
  rw [q.val]
  have hnl := reps_len e _ _ q.rows
  have hmn : min ys.length n * e.cells ≤ ys.length * e.cells := mul_len (Nat.min_le_left _ _)
  have hmn2 : min ys.length n * e.cells ≤ n * e.cells := mul_len (Nat.min_le_right _ _)
  have hlen : (ncells.take (min ys.length n * e.cells)).length = min ys.length n * e.cells := by simp; omega
  have hst := run_storeCells_at P gg o te (ncells.take (min ys.length n * e.cells)) 0 cur w hg (by rw [hlen]; omega) (fun v hv => reps_one e _ _ q.rows v (List.mem_of_mem_take hv))
  simp only [Nat.add_zero, hlen] at hst
  cases A with
  | none =>
    have h0 := q.nil rfl
    have hy : ys = [] := List.eq_nil_of_length_eq_zero (by have := q.le; omega)
    subst hy
    have hn := q.rows
    simp only [reps] at hn
    subst hn
    simp [Builtin.copy_, run_underlying g1, Builtin.lenOf, Builtin.firstCells, sizeOf, typeInfo, g2, goInt] at hst ⊢
    rw [hst]
    rfl
  | some ad =>
    have hl := run_loadCells_list (P := P) w ad (ncells.take (min ys.length n * e.cells)) (fun j u hu => by
      refine q.cell ad rfl j u ?_
      have hj : j < min ys.length n * e.cells := by have := (List.getElem?_eq_some_iff.1 hu).1; omega
      rwa [List.getElem?_take_of_lt hj] at hu)
    rw [hlen] at hl
    simp [Builtin.copy_, run_underlying g1, Builtin.lenOf, Builtin.firstCells, sizeOf, typeInfo, g2, g3, goInt, hl]
    rw [hst]
    simp only [Result.andThen_ok, List.append_assoc]
    try rfl

theorem narrow_run {a : V} {x : Value} {n : Nat} (ha : RV C w g a x) : ∃ x2, RV C w g (narrow n a) x2 ∧ ∀ (A : Option Addr) (cc : Nat) (t ty : TypeId), (Builtin.copy_ #[t, t] ty #[.slice A n cc, x]).run P w = (Builtin.copy_ #[t, t] ty #[.slice A n cc, x2]).run P w := by
  unfold narrow
  split
  · rename_i id e lo m fl
    simp only [RV] at ha
    obtain ⟨hU, A, m0, c0, A', c', e1, e6, e7, rfl, e2, e3, e4, e5⟩ := ha
    refine ⟨Value.slice A' (min m n) c', ?_, fun A cc t ty => ?_⟩
    · simp only [RV]
      exact ⟨hU, A, m0, c0, A', c', e1, e6, e7, rfl, e2, Nat.le_trans (Nat.min_le_left _ _) e3, fun h => by simp at h, e5⟩
    · have hm : Nat.min (min m n) n = Nat.min m n := by show min (min m n) n = min m n; omega
      cases A' <;> simp [Builtin.copy_, Builtin.lenOf, hm, Builtin.firstCells]
  · exact ⟨x, ha, fun _ _ _ _ => rfl⟩
theorem copyR_sound (hT : TabOk P T) (R : RelH C h w g) {t ty : TypeId} {d a v : V} {dx x : Value} {c : List Prop} {h' : Heap} (hs : copyR T t d a h = some (c, v, h')) (hc : ∀ p ∈ c, p)
    (hd : RV C w g d dx) (ha : RV C w g a x) : ∃ val w' g', (Builtin.copy_ #[t, t] ty #[dx, x]).run P w = .ok val w' ∧ WRes C w g fresh v h' val w' g' := by
  unfold copyR at hs
  split at hs
  · rename_i te e bytes zero id e0 lo n fl he
    obtain ⟨inf, z, g1, g2, g3, g4, g5, g6, g7, g8, g9⟩ := elem_of hT he
    split at hs
    · rename_i te' e' xs' ho
      split at hs
      · rename_i xs heq c1 ys hbt hcast _ hrows
        simp only [Option.some.injEq, Prod.mk.injEq] at hs
        obtain ⟨rfl, rfl, rfl⟩ := hs
        subst heq
        obtain rfl := Nat.eq_of_beq_eq_true hbt
        obtain ⟨rfl, hxs⟩ := castO_eq hcast
        simp at hxs
        subst hxs
        obtain ⟨x2, ha, hx2⟩ := narrow_run (P := P) (n := n) ha
        obtain ⟨A2, cap2, ncells, q⟩ := rowsOf_sound R hrows hc ha
        simp only [RV] at hd
        obtain ⟨hU, A, m0, c0, A', c', e1, e6, e7, rfl, e2, e3, e4, e5⟩ := hd
        rw [hx2]
        clear hx2
        have hval : ∀ m : Nat, m ≤ n → RV C w g (.i .i64 (m : Int)) (.int .i64 (m : Int)) := fun m hm => by
          simp only [RV, true_and]; exact wrap_len (by omega)
        by_cases hz : min ys.length n = 0
        · have hy : ys.take n = [] := List.eq_nil_of_length_eq_zero (by rw [List.length_take]; omega)
          have hsame : xs'.take lo ++ (ys.take n).map some ++ xs'.drop (lo + (ys.take n).length) = xs' := by rw [hy]; simp
          rw [hsame]
          refine ⟨_, w, g, run_copy_zero g1 g2 q hz, R.same ho, Evo.refl _ _, hval _ (Nat.min_le_right _ _), fun id h => .inl h⟩
        · obtain ⟨blk, cur, rfl, rfl, q1, q2, q3, q4, q5⟩ := raw_cells (R.obj id _ ho).2 e1 (lo := lo) (n := n) (by omega) (by omega)
          have hA : A' = some ⟨blk, lo * e'.cells, none⟩ := by
            rcases e5 with h | h
            · omega
            · rw [h]; simp [add0]
          subst hA
          have hln : lo + n ≤ xs'.length := by omega
          have hm1 := mul_len (k := e'.cells) hln
          rw [Nat.add_mul] at hm1
          have hrun := run_copy_at (P := P) (ty := ty) (dcap := c') g1 g2 g3 q1 (o := lo * e'.cells) (n := n) (by omega) q
          have hyl : (ys.take n).length = min ys.length n := by rw [List.length_take, Nat.min_comm]
          have htake : reps w g.F e' (ys.take n) (ncells.take (min ys.length n * e'.cells)) := by
            have := reps_take e' ys ncells q.rows (min ys.length n)
            rwa [show ys.take (min ys.length n) = ys.take n by rw [Nat.min_comm, List.take_eq_take_min (i := n)]] at this
          have hnl := reps_len _ _ _ htake
          have hsp := rawRep_splice q4 (by simpa using q3) htake (lo := lo) (by rw [hyl]; omega)
          have hkk : (ys.take n).length * e'.cells ≤ n * e'.cells := mul_len (by rw [hyl]; omega)
          obtain ⟨R', e2'⟩ := R.rows (xs' := xs'.take lo ++ (ys.take n).map some ++ xs'.drop (lo + (ys.take n).length)) ho e1 q1 (by
            rw [List.length_append, List.length_append, List.length_map, List.length_take, List.length_drop]; omega) (cs := _) (by
            rw [List.length_append, List.length_append, hnl, List.length_take, List.length_drop, Array.length_toList]; omega) hsp
          rw [hnl, hyl] at R' e2'
          refine ⟨_, _, g, hrun, ?_, e2', RV_mono e2' _ _ (hval _ (Nat.min_le_right _ _)), fun id h => .inl h⟩
          rw [hyl]; exact R'
      · simp at hs
    · simp at hs
  · simp at hs

theorem zeroD_rep (R : RelH C h w g) {e : Ty} {zero : List ZC} {z : Value} {zd : e.den} (g6 : z.cells.toList.map zcOf = zero) (hz : zeroD e zero = some zd) : rep w g.F e zd z.cells.toList := by
  unfold zeroD at hz
  split at hz
  · rename_i z' hone hden
    simp only [Option.some.injEq] at hz
    subst hz
    rw [← g6] at hden hone
    have hzc := zero_cells (C := C) (w := w) (g := g) z.cells.toList hone
    have R0 : RelH C [] w g := ⟨R.keep, R.size, R.os, R.tape, R.output, R.F, R.Fin, R.pin, R.lam, fun _ _ h => by simp [lookN] at h, fun _ _ _ _ _ h => by simp [lookN] at h⟩
    exact toDen_all R0 hden hzc
  · simp at hz

theorem zeroCells_eq (z : Array Value) (n : Nat) : (Builtin.zeroCells z n).toList = repL z.toList n := madeCells_eq z n
theorem clearR_sound (hT : TabOk P T) (R : RelH C h w g) {t ty : TypeId} {d v : V} {dx : Value} {c : List Prop} {h' : Heap} (hs : clearR T t d h = some (c, v, h')) 
    (hd : RV C w g d dx) : ∃ val w' g', (Builtin.clear_ #[t] ty #[dx]).run P w = .ok val w' ∧ WRes C w g fresh v h' val w' g' := by
  unfold clearR at hs
  split at hs
  · rename_i te e bytes zero id e0 lo n fl he
    obtain ⟨inf, z, g1, g2, g3, g4, g5, g6, g7, g8, g9⟩ := elem_of hT he
    split at hs
    · rename_i te' e' xs' ho
      split at hs
      · rename_i xs heq zd hbt hcast _ hzd
        simp only [Option.some.injEq, Prod.mk.injEq] at hs
        obtain ⟨rfl, rfl, rfl⟩ := hs
        subst heq
        obtain rfl := Nat.eq_of_beq_eq_true hbt
        obtain ⟨rfl, hxs⟩ := castO_eq hcast
        simp at hxs
        subst hxs
        have hrep := zeroD_rep R g6 hzd
        simp only [RV] at hd
        obtain ⟨hU, A, m0, c0, A', c', e1, e6, e7, rfl, e2, e3, e4, e5⟩ := hd
        have htup : ∀ w' : World, RV C w' g (.tup []) (.tuple #[]) := fun w' => by simp only [RV]; exact ⟨[], rfl, rfl⟩
        by_cases hz : n = 0
        · subst hz
          have hsame : xs'.take lo ++ List.replicate 0 (some zd) ++ xs'.drop (lo + 0) = xs' := by simp
          rw [hsame]
          refine ⟨.tuple #[], w, g, ?_, R.same ho, Evo.refl _ _, htup w, fun id h => .inl h⟩
          cases A' <;> simp [Builtin.clear_, run_underlying g1]
        · obtain ⟨blk, cur, rfl, rfl, q1, q2, q3, q4, q5⟩ := raw_cells (R.obj id _ ho).2 e1 (lo := lo) (n := n) (by omega) (by omega)
          have hA : A' = some ⟨blk, lo * e'.cells, none⟩ := by
            rcases e5 with h | h
            · omega
            · rw [h]; simp [add0]
          subst hA
          have hln : lo + n ≤ xs'.length := by omega
          have hm1 := mul_len (k := e'.cells) hln
          rw [Nat.add_mul] at hm1
          have htake := reps_replicate hrep n
          have hnl := reps_len _ _ _ htake
          rw [List.length_replicate] at hnl
          have hst := run_storeCells_at P blk (lo * e'.cells) te (repL z.cells.toList n) 0 cur w q1 (by rw [hnl]; omega) (fun v hv => reps_one e' _ _ htake v hv)
          simp only [Nat.add_zero] at hst
          have hsp := rawRep_splice q4 (by simpa using q3) htake (lo := lo) (by rw [List.length_replicate]; omega)
          have hlist : xs'.take lo ++ (List.replicate n zd).map some ++ xs'.drop (lo + (List.replicate n zd).length) = xs'.take lo ++ List.replicate n (some zd) ++ xs'.drop (lo + n) := by simp
          rw [hlist] at hsp
          obtain ⟨R', e2'⟩ := R.rows (xs' := xs'.take lo ++ List.replicate n (some zd) ++ xs'.drop (lo + n)) ho e1 q1 (by
            rw [List.length_append, List.length_append, List.length_replicate, List.length_take, List.length_drop]; omega) (cs := _) (by
            rw [List.length_append, List.length_append, hnl, List.length_take, List.length_drop, Array.length_toList]; omega) hsp
          refine ⟨.tuple #[], _, g, ?_, R', e2', htup _, fun id h => .inl h⟩
          obtain ⟨m, rfl⟩ : ∃ m, n = m + 1 := ⟨n - 1, by omega⟩
          have hzc := zeroCells_eq z.cells (m + 1)
          simp [Builtin.clear_, run_underlying g1, zeroValue, typeInfo, g2, g5, hzc, hst]
      · simp at hs
    · simp at hs
  · simp at hs

theorem RelH.newRaw (R : RelH C h w g) (hf : FreshIds g fresh) {te : TypeId} {e : Ty} (h0 : 0 < e.cells) {xs : List (Option e.den)} {cur : Array Value} {n : Nat} {wd : World} (hb0 : Below w.heap.size w wd) (hsz : wd.heap.size = w.heap.size) (hl : cur.size = xs.length * e.cells) (hm : xs.length ≤ maxLen) (hn : n ≤ xs.length) (hrep : rawRep w g.F e xs cur.toList) :
    ∃ g', WRes C w g fresh (.vw fresh e 0 n true) ((fresh, .raw te e xs) :: h) (.slice (some ⟨w.heap.size, 0, none⟩) n xs.length) (wd.alloc (.cells cur te)) g' := by
  have hU := hf fresh (Nat.le_refl _) (by omega)
  have hb : Below w.heap.size w (wd.alloc (.cells cur te)) := hb0.alloc (by omega) _
  have ev : Evo w g (wd.alloc (.cells cur te)) (g.new fresh (.slice (some ⟨w.heap.size, 0, none⟩) n xs.length)) := evo_new hU _ (fun b h => hb.block b (R.F b h))
  have hnew : (wd.alloc (.cells cur te)).heap[w.heap.size]? = some (.cells cur te) := by rw [← hsz]; exact heap_alloc_new wd _
  refine ⟨_, (QRes.one (av := .slice (some ⟨w.heap.size, 0, none⟩) n xs.length) (v := .vw fresh e 0 n true) (o := .raw te e xs) hU hb R.F ?_ ?_ (fun b hb' => by simp [ablk] at hb'; omega)).wres R⟩
  · simp only [RV]
    exact ⟨.inr rfl, _, _, _, _, _, upd_same _ _ _, by simp, hm, rfl, by omega, hn, fun _ => by omega, .inr (by simp [Addr.add])⟩
  · refine ⟨h0, .inr ⟨w.heap.size, n, cur, upd_same _ _ _, hnew, hn, hm, hl, rawRep_mono ev.F hrep, .inr R.size, fun hF => ?_⟩⟩
    have := R.F _ hF
    omega

theorem appendR_sound (hT : TabOk P T) (R : RelH C h w g) (hf : FreshIds g fresh) {t ty : TypeId} {s a : V} {sx x : Value} {K : V → Heap → Prop} (hs : appendR T t s a fresh h K)
    (hsv : RV C w g s sx) (ha : RV C w g a x) : ∃ val w' g' v h', (Builtin.append_ #[t, t] ty #[sx, x]).run P w = .ok val w' ∧ K v h' ∧ WRes C w g fresh v h' val w' g' := by
  unfold appendR at hs
  split at hs
  · rename_i te e bytes zero id e0 lo n he
    obtain ⟨inf, z, g1, g2, g3, g4, g5, g6, g7, g8, g9⟩ := elem_of hT he
    split at hs
    · rename_i te' e' xs' ho
      split at hs
      · rename_i xs heq c1 ys hbt hlo hcast _ hrows
        subst heq
        obtain rfl := Nat.eq_of_beq_eq_true hbt
        obtain rfl := Nat.eq_of_beq_eq_true hlo
        obtain ⟨rfl, hxs⟩ := castO_eq hcast
        simp at hxs
        subst hxs
        obtain ⟨hc1, hs⟩ := conj_out' hs
        obtain ⟨hc2, hs⟩ := conj_out' hs
        have hby : (n + ys.length) * bytes ≤ 140737488355328 := hc2 _ (by simp)
        have hmx : n + ys.length ≤ maxLen := hc2 _ (by simp)
        obtain ⟨A2, cap2, ncells, q⟩ := rowsOf_sound R hrows hc1 ha
        simp only [RV] at hsv
        obtain ⟨hU, A, m0, c0, A', c', e1, e6, e7, rfl, e2, e3, e4, e5⟩ := hsv
        have e4 := e4 trivial
        rw [Nat.zero_add] at e4
        subst e4
        obtain ⟨rfl, hm0⟩ := raw_cap (R.obj id _ ho).2 e1
        have hO := (R.obj id _ ho).2
        by_cases hroom : n + ys.length ≤ xs'.length
        · have hK := (hs.1 hroom).out
          by_cases hy : ys = []
          · subst hy
            have hsame : xs'.take n ++ ([] : List e'.den).map some ++ xs'.drop (n + ([] : List e'.den).length) = xs' := by simp
            rw [hsame] at hK
            refine ⟨.slice A' n xs'.length, w, g, _, _, ?_, hK, R.same ho, Evo.refl _ _, ?_, fun id h => .inl h⟩
            · rw [q.val]
              cases A2 <;> cases A' <;> simp [Builtin.append_, run_underlying g1, sizeOf, typeInfo, g2, Builtin.lenOf, Builtin.firstCells, loadCells, loadCellsFrom, storeCells, e3]
            · simp only [RV]
              exact ⟨hU, A, m0, _, _, _, e1, e6, e7, by simp, by omega, by simpa using e3, fun _ => by omega, e5⟩
          · obtain ⟨blk, cur, rfl, _, q1, q2, q3, q4, q5⟩ := raw_cells (R.obj id _ ho).2 e1 (lo := n) (n := ys.length) (by have := List.length_pos_iff.2 hy; omega) (by omega)
            have hylen := List.length_pos_iff.2 hy
            have hA : A' = some ⟨blk, 0, none⟩ := by
              rcases e5 with h | h
              · omega
              · rw [h]; simp [Addr.add]
            subst hA
            cases A2 with
            | none => have := q.nil rfl; have := q.le; omega
            | some ad =>
              have hnl := reps_len _ _ _ q.rows
              have hm1 := mul_len (k := e'.cells) hroom
              rw [Nat.add_mul] at hm1
              have hrun := run_append_room (P := P) w t ty te inf g1 g2 blk n xs'.length cur q1 ad ys.length cap2 ncells (by rw [g3]; exact hnl) (q.cell ad rfl) (reps_one _ _ _ q.rows) hroom (by rw [g3, hnl, q3]; omega)
              rw [g3] at hrun
              have hsp := rawRep_splice q4 (by simpa using q3) q.rows (lo := n) hroom
              obtain ⟨R', e2'⟩ := R.rows (xs' := xs'.take n ++ ys.map some ++ xs'.drop (n + ys.length)) ho e1 q1 (by
                rw [List.length_append, List.length_append, List.length_map, List.length_take, List.length_drop]; omega) (cs := _) (by
                rw [List.length_append, List.length_append, hnl, List.length_take, List.length_drop, Array.length_toList]; omega) hsp
              refine ⟨_, _, g, _, _, by rw [q.val]; exact hrun, hK, R', e2', ?_, fun id h => .inl h⟩
              simp only [RV]
              exact ⟨hU, _, m0, _, _, _, e1, by simp, e7, rfl, by omega, hroom, fun _ => by omega, .inr (by simp [Addr.add])⟩
        · have hgrow : xs'.length < n + ys.length := by omega
          have hylen : 0 < ys.length := by omega
          have hK := hs.2 hgrow
          cases A2 with
          | none => have := q.nil rfl; have := q.le; omega
          | some ad =>
            have hnl := reps_len _ _ _ q.rows
            have hge := grownCap_ge w (n + ys.length) xs'.length te
            have hcm := grownCap_le_maxLen w (n + ys.length) xs'.length te hmx
            have h63 : ((n + ys.length : Nat) : Int) ≤ 9223372036854775807 := by simp only [maxLen] at hmx; omega
            have key : ∀ (olds : List Value), olds.length = n * e'.cells → rawRep w g.F e' (xs'.take n) olds →
                (Builtin.append_ #[t, t] ty #[.slice A' n xs'.length, .slice (some ad) ys.length cap2]).run P w = .ok (.slice (some ⟨w.heap.size, 0, none⟩) (n + ys.length) (grownCap w (n + ys.length) xs'.length te))
                  (w.drew.alloc (.cells (olds.toArray ++ ncells.toArray ++ Builtin.zeroCells z.cells (grownCap w (n + ys.length) xs'.length te - (n + ys.length))) te)) →
                ∃ val w' g' v h', (Builtin.append_ #[t, t] ty #[.slice A' n xs'.length, x]).run P w = .ok val w' ∧ K v h' ∧ WRes C w g fresh v h' val w' g' := by
              intro olds hol hor hrun
              have hlen : (xs'.take n ++ ys.map some ++ List.replicate (grownCap w (n + ys.length) xs'.length te - (n + ys.length)) none).length = grownCap w (n + ys.length) xs'.length te := by
                simp; omega
              have hrr : rawRep w g.F e' (xs'.take n ++ ys.map some ++ List.replicate (grownCap w (n + ys.length) xs'.length te - (n + ys.length)) none)
                  (olds.toArray ++ ncells.toArray ++ Builtin.zeroCells z.cells (grownCap w (n + ys.length) xs'.length te - (n + ys.length))).toList := by
                simp only [Array.toList_append]
                refine rawRep_append (rawRep_append hor (by rw [hol, List.length_take, Nat.min_eq_left (by omega)]) (rawRep_some q.rows)) ?_ (rawRep_none _ _)
                rw [List.length_append, List.length_append, List.length_map, List.length_take, Nat.min_eq_left (by omega), Nat.add_mul, ← hnl]
                simp [hol]
              obtain ⟨g', hW⟩ := R.newRaw hf (te := te) g7 (n := n + ys.length) (wd := w.drew) (Below.refl _ _ |>.drew) rfl (by
                rw [hlen]
                simp only [Array.size_append, List.size_toArray, size_zeroCells, g8, hol, hnl, ← Nat.add_mul]
                congr 1; omega) (by rw [hlen]; exact hcm) (by rw [hlen]; exact hge) hrr
              rw [hlen] at hW
              exact ⟨_, _, g', _, _, by rw [q.val]; exact hrun, (hK _ hge).out, hW⟩
            by_cases hn0 : A' = none
            · subst hn0
              have hx0 : xs'.length = 0 := by
                rcases e5 with h | h
                · exact h.1
                · cases A with
                  | none => exact e6 rfl
                  | some ad => simp at h
              have hx : xs' = [] := List.eq_nil_of_length_eq_zero hx0
              subst hx
              obtain rfl : n = 0 := by simpa using e3
              refine key [] (by simp) (fun i x hi => by simp at hi) ?_
              have := run_append_nil (P := P) w t ty te inf z g1 g2 g5 ad ys.length cap2 ncells (by rw [g3]; exact hnl) (q.cell ad rfl) hylen (by omega) (by rw [g4]; simp only [Nat.zero_add] at hby; omega)
              simpa using this
            · obtain ⟨ad', rfl⟩ := Option.ne_none_iff_exists'.1 hn0
              have hA : n = 0 ∨ ∃ blk cur, A = some ⟨blk, 0, none⟩ ∧ ad' = ⟨blk, 0, none⟩ ∧ w.heap[blk]? = some (.cells cur te (0, 0)) ∧ cur.size = xs'.length * e'.cells ∧ rawRep w g.F e' xs' cur.toList := by
                by_cases hn : n = 0
                · exact .inl hn
                · obtain ⟨blk, cur, rfl, _, q1, q2, q3, q4, q5⟩ := raw_cells (R.obj id _ ho).2 e1 (lo := 0) (n := n) (by omega) (by omega)
                  refine .inr ⟨blk, cur, rfl, ?_, q1, q3, q4⟩
                  rcases e5 with h | h
                  · omega
                  · simpa [Addr.add] using h
              rcases hA with rfl | ⟨blk, cur, rfl, rfl, q1, q3, q4⟩
              · refine key [] (by simp) (fun i x hi => by simp at hi) ?_
                have := run_append_grow (P := P) w t ty te inf z g1 g2 g5 ad' 0 xs'.length [] (by simp) (fun j v h => by simp at h) ad ys.length cap2 ncells (by rw [g3]; exact hnl) (q.cell ad rfl) (by omega) h63 (growslice_fits (by omega) (by rw [g4]; exact hby))
                simpa using this
              · have hnx : n * e'.cells ≤ xs'.length * e'.cells := mul_len e3
                have hol : (cur.toList.take (n * e'.cells)).length = n * e'.cells := by simp; omega
                refine key (cur.toList.take (n * e'.cells)) hol (rawRep_take q4 n) ?_
                exact run_append_grow (P := P) w t ty te inf z g1 g2 g5 ⟨blk, 0, none⟩ n xs'.length _ (by rw [g3]; exact hol) (fun j v hj => by
                  have hjl : j < n * e'.cells := by have := (List.getElem?_eq_some_iff.1 hj).1; omega
                  rw [List.getElem?_take_of_lt hjl] at hj
                  rw [add0, cell_of_row w blk _ _ _ _ q1]; simpa using hj) ad ys.length cap2 ncells (by rw [g3]; exact hnl) (q.cell ad rfl) hgrow h63 (growslice_fits (by omega) (by rw [g4]; exact hby))
      · exact hs.elim
    · exact hs.elim
  · exact hs.elim

theorem run_firstCells_list {size n : Nat} {A : Option Addr} {c : Nat} {cs : List Value} (hl : cs.length = n * size) (hA : A = none → cs = []) (hcell : ∀ ad, A = some ad → ∀ (j : Nat) (u : Value), cs[j]? = some u → w.cell? (ad.add j) = some u) :
    (Builtin.firstCells size n (.slice A n c)).run P w = .ok cs.toArray w := by
  cases A with
  | none => rw [hA rfl]; simp [Builtin.firstCells]
  | some ad =>
    have := run_loadCells_list (P := P) w ad cs (hcell ad rfl)
    rw [hl] at this
    simp [Builtin.firstCells, this]
theorem cell_drew (w : World) (a : Addr) : w.drew.cell? a = w.cell? a := rfl
theorem appendZR_sound (hT : TabOk P T) (R : RelH C h w g) (hf : FreshIds g fresh) {t tn ty : TypeId} {s a : V} {sx x : Value} {K : V → Heap → Prop} (hs : appendZR T t tn s a fresh h K)
    (hsv : RV C w g s sx) (ha : RV C w g a x) : ∃ val w' g' v h', (Builtin.append_ #[t, tn] ty #[sx, x]).run P w = .ok val w' ∧ K v h' ∧ WRes C w g fresh v h' val w' g' := by
  unfold appendZR at hs
  split at hs
  · rename_i te e bytes zero id e0 lo n kk k q5 q6 q7 q8 q9 q10 he hti
    obtain ⟨inf, z, g1, g2, g3, g4, g5, g6, g7, g8, g9⟩ := elem_of hT he
    obtain ⟨inf2, u2, z2, k1, k2, k3, k4, k5, k6⟩ := ti_of hT hti
    obtain rfl := und_int k4
    split at hs
    · rename_i te' e' xs' ho
      split at hs
      · rename_i xs heq zd hbt hlo hcast _ hzd
        subst heq
        obtain rfl := Nat.eq_of_beq_eq_true hbt
        obtain rfl := Nat.eq_of_beq_eq_true hlo
        obtain ⟨rfl, hxs⟩ := castO_eq hcast
        simp at hxs
        subst hxs
        have hrep := zeroD_rep R g6 hzd
        obtain ⟨hc, hs⟩ := conj_out' hs
        have c1 : 0 < k := hc _ (by simp)
        have c2 : (xs'.length : Int) < n + k := hc _ (by simp)
        have c3 : (n + k) * (bytes : Int) ≤ 140737488355328 := hc _ (by simp)
        have c4 : n + k ≤ (maxLen : Int) := hc _ (by simp)
        obtain ⟨m, rfl⟩ := Int.eq_ofNat_of_zero_le (Int.le_of_lt c1)
        simp only [Int.toNat_natCast] at hs
        simp only [RV] at hsv ha
        obtain ⟨hU, A, m0, c0, A', c', e1, e6, e7, rfl, e2, e3, e4, e5⟩ := hsv
        obtain ⟨rfl, _⟩ := ha
        have e4 := e4 trivial
        rw [Nat.zero_add] at e4
        subst e4
        obtain ⟨rfl, hm0⟩ := raw_cap (R.obj id _ ho).2 e1
        have hby : (n + m) * bytes ≤ 140737488355328 := by
          have : (((n + m) * bytes : Nat) : Int) ≤ 140737488355328 := by push_cast; exact c3
          omega
        have hmx : n + m ≤ maxLen := by omega
        have hge := grownCap_ge w (n + m) xs'.length te
        have hcm := grownCap_le_maxLen w (n + m) xs'.length te hmx
        have h63 : ((n + m : Nat) : Int) ≤ 9223372036854775807 := by simp only [maxLen] at hmx; omega
        obtain ⟨olds, hol, hor, hA, hcell⟩ : ∃ olds : List Value, olds.length = n * e'.cells ∧ rawRep w g.F e' (xs'.take n) olds ∧ (A' = none → olds = []) ∧ (∀ ad, A' = some ad → ∀ (j : Nat) (u : Value), olds[j]? = some u → w.cell? (ad.add j) = some u) := by
          by_cases hn : n = 0
          · subst hn
            exact ⟨[], by simp, fun i x hi => by simp at hi, fun _ => rfl, fun _ _ _ _ h => by simp at h⟩
          · obtain ⟨blk, cur, rfl, _, q1, q2, q3, q4, q5⟩ := raw_cells (R.obj id _ ho).2 e1 (lo := 0) (n := n) (by omega) (by omega)
            have hA' : A' = some ⟨blk, 0, none⟩ := by
              rcases e5 with h | h
              · omega
              · simpa [Addr.add] using h
            have hnx : n * e'.cells ≤ xs'.length * e'.cells := mul_len e3
            refine ⟨cur.toList.take (n * e'.cells), by simp; omega, rawRep_take q4 n, fun h => by rw [hA'] at h; simp at h, fun ad had j v hj => ?_⟩
            rw [hA'] at had
            simp at had
            subst had
            have hjl : j < n * e'.cells := by have := (List.getElem?_eq_some_iff.1 hj).1; simp at this; omega
            rw [List.getElem?_take_of_lt hjl] at hj
            rw [add0, cell_of_row w blk _ _ _ _ q1]; simpa using hj
        have hrun := Lib.run_append_grow_zeros (P := P) w t tn ty te inf z kk q5 g1 k2 g2 g5 A' n xs'.length olds (by
          rw [g3]
          exact run_firstCells_list hol hA (fun ad had j u hu => hcell ad had j u hu)) m (by omega) (by omega) (by omega) h63 (by
          rw [g4]
          have : m * bytes ≤ (n + m) * bytes := mul_len (by omega)
          omega) (growslice_fits (by omega) (by rw [g4]; exact hby))
        have hlen : (xs'.take n ++ List.replicate m (some zd) ++ List.replicate (grownCap w (n + m) xs'.length te - (n + m)) none).length = grownCap w (n + m) xs'.length te := by
          simp; omega
        have hzl : (Builtin.zeroCells z.cells m).toList.length = m * e'.cells := by rw [zeroCells_eq, repL_len]; simp [g8]
        have hrr : rawRep w g.F e' (xs'.take n ++ List.replicate m (some zd) ++ List.replicate (grownCap w (n + m) xs'.length te - (n + m)) none)
            (olds.toArray ++ Builtin.zeroCells z.cells m ++ Builtin.zeroCells z.cells (grownCap w (n + m) xs'.length te - (n + m))).toList := by
          simp only [Array.toList_append]
          refine rawRep_append (rawRep_append hor (by rw [hol, List.length_take, Nat.min_eq_left (by omega)]) ?_) ?_ (rawRep_none _ _)
          · have := rawRep_some (reps_replicate hrep m)
            rw [zeroCells_eq]
            simpa using this
          · rw [List.length_append, List.length_append, List.length_replicate, List.length_take, Nat.min_eq_left (by omega), Nat.add_mul, ← hzl]
            simp [hol]
        obtain ⟨g', hW⟩ := R.newRaw hf (te := te) g7 (n := n + m) (wd := w.drew) (Below.refl _ _ |>.drew) rfl (by
          rw [hlen]
          simp only [Array.size_append, List.size_toArray, size_zeroCells, g8, hol, ← Nat.add_mul]
          congr 1; omega) (by rw [hlen]; exact hcm) (by rw [hlen]; exact hge) hrr
        rw [hlen] at hW
        exact ⟨_, _, g', _, _, hrun, (hs _ (by omega)).out, hW⟩
      · exact hs.elim
    · exact hs.elim
  · rename_i te e bytes zero kk k q5 q6 q7 q8 q9 q10 he hti
    obtain ⟨inf, z, g1, g2, g3, g4, g5, g6, g7, g8, g9⟩ := elem_of hT he
    obtain ⟨inf2, u2, z2, k1, k2, k3, k4, k5, k6⟩ := ti_of hT hti
    obtain rfl := und_int k4
    split at hs
    · rename_i zd hzd
      have hrep := zeroD_rep R g6 hzd
      obtain ⟨hc, hs⟩ := conj_out' hs
      have c1 : 0 < k := hc _ (by simp)
      have c3 : k * (bytes : Int) ≤ 140737488355328 := hc _ (by simp)
      have c4 : k ≤ (maxLen : Int) := hc _ (by simp)
      obtain ⟨m, rfl⟩ := Int.eq_ofNat_of_zero_le (Int.le_of_lt c1)
      simp only [Int.toNat_natCast] at hs
      simp only [RV] at hsv ha
      subst hsv
      obtain ⟨rfl, _⟩ := ha
      have hby : (0 + m) * bytes ≤ 140737488355328 := by
        rw [Nat.zero_add]
        have : ((m * bytes : Nat) : Int) ≤ 140737488355328 := by push_cast; exact c3
        omega
      have hmx : 0 + m ≤ maxLen := by omega
      have hge := grownCap_ge w (0 + m) 0 te
      have hcm := grownCap_le_maxLen w (0 + m) 0 te hmx
      have h63 : ((0 + m : Nat) : Int) ≤ 9223372036854775807 := by simp only [maxLen] at hmx; omega
      have hrun := Lib.run_append_grow_zeros (P := P) w t tn ty te inf z kk q5 g1 k2 g2 g5 none 0 0 [] (by
        rw [g3]
        exact run_firstCells_list (by simp) (fun _ => rfl) (fun _ h => by cases h)) m (by omega) (by omega) (by omega) h63 (by
        rw [g4]
        rw [Nat.zero_add] at hby
        omega) (growslice_fits (by omega) (by rw [g4]; exact hby))
      simp only [Nat.zero_add] at hrun hge hcm
      have hzl : (Builtin.zeroCells z.cells m).toList.length = m * e.cells := by rw [zeroCells_eq, repL_len]; simp [g8]
      have hb : Below w.heap.size w (w.drew.alloc (.cells ((#[] : Array Value) ++ Builtin.zeroCells z.cells m ++ Builtin.zeroCells z.cells (grownCap w m 0 te - m)) te)) := (Below.refl _ _ |>.drew).alloc (Nat.le_refl _) _
      have hown : (w.drew.alloc (.cells ((#[] : Array Value) ++ Builtin.zeroCells z.cells m ++ Builtin.zeroCells z.cells (grownCap w m 0 te - m)) te)).ownsRow w.heap.size te e.cells (.slice (some ⟨w.heap.size, 0, none⟩) m (grownCap w m 0 te)) (List.replicate m zd).length (repL z.cells.toList m) := by
        rw [List.length_replicate]
        refine ⟨by rw [repL_len]; simp [g8], .inr ⟨w.heap.size, _, _, rfl, Nat.le_refl _, heap_alloc_new w.drew _, hge, hcm, ?_, ?_⟩⟩
        · rw [Array.size_append, Array.size_append, size_zeroCells, size_zeroCells, g8]
          rw [show (#[] : Array Value).size = 0 from rfl, Nat.zero_add, ← Nat.add_mul]
          congr 1; omega
        · simp only [Array.toList_append, List.nil_append]
          rw [List.take_left' hzl, zeroCells_eq]
      exact ⟨_, _, _, _, _, hrun, hs.out, (QRes.arr (fresh := fresh) (xs := List.replicate m zd) R (hf fresh (Nat.le_refl _) (by omega)) hb hown (reps_replicate hrep m) g7 ⟨_, _, _, rfl⟩).wres R⟩
    · exact hs.elim
  · exact hs.elim

/-! ## Maps -/
theorem mapT_of (hT : TabOk P T) {t : TypeId} {k e : Ty} {zv : V} (h : mapT T t = some (k, e, zv)) :
    ∃ tk te kd, P.underlying t = some (.map tk te) ∧ P.underlying tk = some kd ∧ (∀ w : World, (zeroValue te).run P w = .ok (.bool false) w) ∧ e = .bool ∧ zv = .bl false ∧ ((∃ q, k = .int q ∧ kd = .int q) ∨ (k = .str ∧ kd = .string)) := by
  unfold mapT at h
  split at h
  · rename_i tk te _ _ _ _ hti
    obtain ⟨inf, u, z, g1, g2, g3, g4, g5, g6, g7, g8, g9⟩ := ti_of hT hti
    have hu : u = .map tk te := by
      cases u <;> simp [tdOf] at g4
      obtain ⟨rfl, rfl⟩ := g4; rfl
    subst hu
    have hz : ∀ w : World, (zeroValue te).run P w = .ok (.bool false) w := fun w => by
      simp only [eqOf] at g9
      split at g9
      · rename_i i hi
        split at g9
        · rename_i hzz
          simp [zeroValue, typeInfo, hi, hzz]
        · simp at g9
      · simp at g9
    split at h
    · rename_i dk _ _ _ _ _ hk
      obtain ⟨infk, uk, zk, k1, k2, k3, k4, k5⟩ := ti_of hT hk
      split at h
      · simp only [Option.some.injEq, Prod.mk.injEq] at h
        obtain ⟨rfl, rfl, rfl⟩ := h
        obtain rfl := und_int k4
        exact ⟨tk, te, _, g2, k2, hz, rfl, rfl, .inl ⟨_, rfl, rfl⟩⟩
      · simp only [Option.some.injEq, Prod.mk.injEq] at h
        obtain ⟨rfl, rfl, rfl⟩ := h
        obtain rfl := und_str k4
        exact ⟨tk, te, _, g2, k2, hz, rfl, rfl, .inr ⟨rfl, rfl⟩⟩
      · simp at h
    · simp at h
  · simp at h
/-- A key, as a value. -/
theorem keyV_rel {k : Ty} {v : V} {a : k.den} {x : Value} (hs : keyV k v = some a) (hv : RV C w g v x) : keyRep k a x := by
  unfold keyV at hs
  split at hs
  · rename_i q n
    split at hs
    · rename_i q'
      split at hs
      · rename_i hq
        subst hq
        simp only [Option.some.injEq] at hs
        subst hs
        simp only [RV] at hv
        exact hv
      · simp at hs
    · simp at hs
  · split at hs
    · simp only [Option.some.injEq] at hs
      subst hs
      simp only [RV] at hv
      exact hv
    · simp at hs
  · simp at hs
theorem str_beq (a b : List UInt8) : ((⟨⟨a⟩⟩ : ByteArray) == ⟨⟨b⟩⟩) = (a == b) := by
  have : ((⟨⟨a⟩⟩ : ByteArray) == ⟨⟨b⟩⟩) = ((⟨a⟩ : Array UInt8) == ⟨b⟩) := rfl
  rw [this]
  simp
theorem sameNow_rep {k : Ty} {kd : TypeDesc} (hk : (∃ q, k = .int q ∧ kd = .int q) ∨ (k = .str ∧ kd = .string)) {a b : k.den} {x y : Value} (hx : keyRep k a x) (hy : keyRep k b y) : Instr.sameNow kd x y = some (keyEq k a b) ∧ (keyEq k a b = true → x = y) := by
  rcases hk with ⟨q, rfl, rfl⟩ | ⟨rfl, rfl⟩
  · simp only [keyRep] at hx hy
    obtain ⟨rfl, _⟩ := hx
    obtain ⟨rfl, _⟩ := hy
    refine ⟨by simp [Instr.sameNow, keyEq], fun h => ?_⟩
    simp only [keyEq, beq_iff_eq] at h
    rw [h]
  · simp only [keyRep] at hx hy
    obtain ⟨rfl, _⟩ := hx
    obtain ⟨rfl, _⟩ := hy
    refine ⟨by simp only [Instr.sameNow, keyEq, str_beq], fun h => ?_⟩
    simp only [keyEq, beq_iff_eq] at h
    rw [h]
/-- What a search for a key finds. -/
structure Found (k e : Ty) (w : World) (F : Nat → Prop) (a : k.den) (kv : Value) (l : List (k.den × e.den)) (es : List MapEntry) (i : Nat) (r : Option (Nat × Value)) : Prop where
  get : ∀ d, match r with
    | none => mapGet k a d l = d ∧ mapHas k a l = false
    | some (_, v) => rep w F e (mapGet k a d l) [v] ∧ mapHas k a l = true
  at_ : ∀ j v, r = some (j, v) → i ≤ j ∧ ∃ en, es[j - i]? = some en ∧ en.key = kv
  put : ∀ (v : e.den) (val : Value), rep w F e v [val] → match r with
    | none => ∀ born, mapRep k e w F (mapPut k a v l) (es ++ [{ key := kv, val, born }])
    | some (j, _) => mapRep k e w F (mapPut k a v l) (es.modify (j - i) fun en => { en with key := kv, val })
  del : match r with
    | none => mapDel k a l = l
    | some (j, _) => mapRep k e w F (mapDel k a l) (es.eraseIdx (j - i))
theorem find_rep {k e : Ty} {kd : TypeDesc} (hk : (∃ q, k = .int q ∧ kd = .int q) ∨ (k = .str ∧ kd = .string)) {F : Nat → Prop} {a : k.den} {kv : Value} (ha : keyRep k a kv) : ∀ (l : List (k.den × e.den)) (es : List MapEntry) (i : Nat), mapRep k e w F l es →
    ∃ r, Instr.findNow kd kv es i = some r ∧ Found k e w F a kv l es i r
  | [], es, i, h => by
    simp only [mapRep] at h
    subst h
    refine ⟨none, rfl, ⟨fun d => ⟨rfl, rfl⟩, fun j v h => by simp at h, fun v val hv born => ?_, rfl⟩⟩
    exact ⟨_, [], rfl, ha, hv, rfl⟩
  | (b, v) :: r, es, i, h => by
    simp only [mapRep] at h
    obtain ⟨x, xs, rfl, h1, h2, h3⟩ := h
    obtain ⟨hs, he⟩ := sameNow_rep hk ha h1
    cases hq : keyEq k a b
    · obtain ⟨r', hr1, hr2⟩ := find_rep hk ha r xs (i + 1) h3
      refine ⟨r', by simp [Instr.findNow, hs, hq, hr1], ?_⟩
      cases r' with
      | none =>
        refine ⟨fun d => ?_, fun j v h => by simp at h, fun v' val hv born => ?_, ?_⟩
        · have := hr2.get d
          simp only [mapGet, mapHas, hq, Bool.false_eq_true, if_false, Bool.false_or]
          exact this
        · have := hr2.put v' val hv born
          simp only [mapPut, hq, Bool.false_eq_true, if_false]
          exact ⟨x, _, rfl, h1, h2, this⟩
        · have := hr2.del
          simp only [mapDel, hq, Bool.false_eq_true, if_false]
          simp only at this
          rw [this]
      | some p =>
        obtain ⟨j, u⟩ := p
        obtain ⟨hj, en, hen1, hen2⟩ := hr2.at_ j u rfl
        have hji : j - i = (j - (i + 1)) + 1 := by omega
        refine ⟨fun d => ?_, fun j' v' h => ?_, fun v' val hv => ?_, ?_⟩
        · have := hr2.get d
          simp only [mapGet, mapHas, hq, Bool.false_eq_true, if_false, Bool.false_or]
          exact this
        · simp only [Option.some.injEq, Prod.mk.injEq] at h
          obtain ⟨rfl, rfl⟩ := h
          exact ⟨by omega, en, by rw [hji]; simpa using hen1, hen2⟩
        · have := hr2.put v' val hv
          simp only [mapPut, hq, Bool.false_eq_true, if_false]
          simp only at this
          rw [hji]
          exact ⟨x, _, rfl, h1, h2, this⟩
        · have := hr2.del
          simp only [mapDel, hq, Bool.false_eq_true, if_false]
          simp only at this
          rw [hji]
          exact ⟨x, _, rfl, h1, h2, this⟩
    · have hkv := he hq
      refine ⟨some (i, x.val), by simp [Instr.findNow, hs, hq], ⟨fun d => ?_, fun j v' h => ?_, fun v' val hv => ?_, ?_⟩⟩
      · simp only [mapGet, mapHas, hq, if_true, Bool.true_or, and_true]
        exact h2
      · simp only [Option.some.injEq, Prod.mk.injEq] at h
        obtain ⟨rfl, rfl⟩ := h
        exact ⟨Nat.le_refl _, x, by simp, hkv.symm⟩
      · simp only [mapPut, hq, if_true, Nat.sub_self]
        exact ⟨_, xs, rfl, ha, hv, h3⟩
      · simp only [mapDel, hq, if_true, Nat.sub_self]
        exact h3
theorem checkKey_succ {kd : TypeDesc} {tk : TypeId} (hu : P.underlying tk = some kd) (hk : (∃ q, kd = .int q) ∨ kd = .string) (b : Bool) (n : Nat) (x : Value) : (Instr.checkKey b (n + 1) tk x).run P w = .ok () w := by
  rw [Instr.checkKey.eq_2]
  rcases hk with ⟨q, rfl⟩ | rfl <;> simp only [Sem.run_bind, run_underlying hu, Result.andThen_ok] <;> rfl
theorem run_checkKey {kd : TypeDesc} {tk : TypeId} (hu : P.underlying tk = some kd) (hk : (∃ q, kd = .int q) ∨ kd = .string) (b : Bool) (x : Value) : (Instr.checkKey b 10000 tk x).run P w = .ok () w := checkKey_succ hu hk b 9999 x

theorem gom {r : Nat} {es : Array MapEntry} {clock : Nat} (hb : w.heap[r]? = some (.map es clock)) : (getObj r).run P w = .ok (.map es clock) w := by
  simp [getObj, Sem.run, hb]
theorem som {r : Nat} {es : Array MapEntry} {clock : Nat} (o : Go.Obj) (hb : w.heap[r]? = some (.map es clock)) : (Go.setObj r o).run P w = .ok () { w with heap := w.heap.setIfInBounds r o } := by
  simp [Go.setObj, Sem.run, hb]
theorem mp_obj (R : RelH C h w g) {id : Nat} {k e : Ty} {l : List (k.den × e.den)} (ho : lookN h id = some (.map k e l)) {x : Value} (hx : RV C w g (.mp id) x) :
    ∃ blk es clock, g.anch id = .map (some blk) ∧ x = .map (some blk) ∧ w.heap[blk]? = some (.map es clock) ∧ mapRep k e w g.F l es.toList ∧ MutOk C g blk := by
  obtain ⟨blk, es, clock, h1, h2, h3, h4⟩ := (R.obj id _ ho).2
  simp only [RV] at hx
  obtain ⟨_, rfl, _⟩ := hx
  exact ⟨blk, es, clock, h1, h1, h2, h3, h4⟩
theorem lookupV_sound (hT : TabOk P T) (R : RelH C h w g) {t : TypeId} {m ix v : V} {x y : Value} {ok : Bool} {c : List Prop} {news : Heap} (hs : lookupV T t m ix ok h = some (c, v, news)) (hm : RV C w g m x) (hi : RV C w g ix y) :
    news = [] ∧ ∃ val, (Instr.lookup t x y ok).run P w = .ok val w ∧ RV C w g v val := by
  unfold lookupV at hs
  split at hs
  · rename_i k z id hmt
    obtain ⟨tk, te, kd, g1, g2, g3, _, g5, g6⟩ := mapT_of hT hmt
    simp only [V.bl.injEq] at g5
    subst g5
    split at hs
    · rename_i k' e' l' a ho hkv
      split at hs
      · rename_i l hcast
        obtain ⟨rfl, rfl, hl⟩ := castM_eq hcast
        simp at hl
        subst hl
        obtain ⟨blk, es, clock, h1, rfl, h2, h3, _⟩ := mp_obj R ho hm
        have hkr := keyV_rel hkv hi
        obtain ⟨r, hr, hF⟩ := find_rep g6 hkr l' es.toList 0 h3
        have hck := run_checkKey (P := P) (w := w) g2 (by rcases g6 with ⟨q, _, h⟩ | ⟨_, h⟩; exact .inl ⟨q, h⟩; exact .inr h) es.isEmpty y
        have hfk : (Instr.findKey tk y es.toList).run P w = .ok r w := by
          simp [Instr.findKey, run_underlying g2, hr]
        have hrun : ∃ b, (Instr.lookup t (.map (some blk)) y ok).run P w = .ok (if ok then .tuple #[.bool (mapGet k' a false l'), .bool b] else .bool (mapGet k' a false l')) w ∧ b = mapHas k' a l' := by
          have hg := hF.get (false : Ty.bool.den)
          cases r with
          | none =>
            refine ⟨false, ?_, hg.2.symm⟩
            rw [hg.1]
            simp [Instr.lookup, run_underlying g1, gom h2, hck, hfk, g3]
            try (cases ok <;> rfl)
          | some p =>
            obtain ⟨j, u⟩ := p
            simp only [rep] at hg
            obtain ⟨hu, hh⟩ := hg
            simp only [List.cons.injEq, and_true] at hu
            subst hu
            refine ⟨true, ?_, hh.symm⟩
            simp [Instr.lookup, run_underlying g1, gom h2, hck, hfk]
            try (cases ok <;> rfl)
        obtain ⟨b, hrun, rfl⟩ := hrun
        cases ok
        · simp only [Option.some.injEq, Prod.mk.injEq] at hs
          obtain ⟨rfl, rfl, rfl⟩ := hs
          exact ⟨rfl, _, hrun, by simp [RV]⟩
        · simp only [Option.some.injEq, Prod.mk.injEq] at hs
          obtain ⟨rfl, rfl, rfl⟩ := hs
          refine ⟨rfl, _, hrun, ?_⟩
          simp only [if_true, RV]
          exact ⟨[_, _], rfl, by simp [RVs, RV]⟩
      · simp at hs
    · simp at hs
  · simp at hs
theorem makeMapV_sound (hT : TabOk P T) (R : RelH C h w g) (hf : FreshIds g fresh) {t : TypeId} {v : V} {c : List Prop} {news : Heap} (hs : makeMapV T t fresh = some (c, v, news)) :
    ∃ val w' g', (Instr.makeMap t none).run P w = .ok val w' ∧ QRes C w g fresh v news val w' g' := by
  unfold makeMapV at hs
  split at hs
  · rename_i k e zv hmt
    simp only [Option.some.injEq, Prod.mk.injEq] at hs
    obtain ⟨rfl, rfl, rfl⟩ := hs
    have hU := hf fresh (Nat.le_refl _) (by omega)
    have hb : Below w.heap.size w (w.alloc (.map #[] 0)) := (Below.refl _ _).alloc (Nat.le_refl _) _
    refine ⟨_, _, g.new fresh (.map (some w.heap.size)), rfl, QRes.one (av := .map (some w.heap.size)) hU hb R.F ?_ ?_ (fun b hb' => by simp [ablk] at hb'; omega)⟩
    · simp only [RV]
      exact ⟨.inr rfl, (upd_same _ _ _).symm, _, rfl⟩
    · refine ⟨w.heap.size, #[], 0, upd_same _ _ _, heap_alloc_new w _, rfl, .inr R.size, fun hF => ?_⟩
      have := R.F _ hF
      omega
  · simp at hs
theorem keyThatStays_same {k : Ty} {kd : TypeDesc} (hk : (∃ q, k = .int q ∧ kd = .int q) ∨ (k = .str ∧ kd = .string)) {a : k.den} {x : Value} (hx : keyRep k a x) : (Instr.keyThatStays x x).run P w = .ok x w := by
  have : Instr.sameBits 10000 x x = true := by
    rcases hk with ⟨q, rfl, rfl⟩ | ⟨rfl, rfl⟩
    · simp only [keyRep] at hx
      obtain ⟨rfl, _⟩ := hx
      simp [Instr.sameBits]
    · simp only [keyRep] at hx
      obtain ⟨rfl, _⟩ := hx
      simp only [Instr.sameBits, str_beq, beq_self_eq_true]
  simp [Instr.keyThatStays, this]
theorem RelH.setMap (R : RelH C h w g) {id blk : Nat} {k e : Ty} {l l' : List (k.den × e.den)} (ho : lookN h id = some (.map k e l)) (ha : g.anch id = .map (some blk)) {es : Array MapEntry} {clock : Nat} (hlt : blk < w.heap.size)
    (hr : mapRep k e w g.F l' es.toList) (hm : MutOk C g blk) : RelH C (setObj h id (.map k e l')) { w with heap := w.heap.setIfInBounds blk (.map es clock) } g ∧ Evo w g { w with heap := w.heap.setIfInBounds blk (.map es clock) } g := by
  refine R.write ho rfl rfl (blk := blk) (by rw [ha]; rfl) (fun b hb => by simp [Array.getElem?_setIfInBounds_ne (Ne.symm hb)]) (by simp) rfl rfl rfl (fun ev => ?_)
  exact ⟨blk, es, clock, ha, by simp [Array.getElem?_setIfInBounds_self_of_lt hlt], mapRep_mono ev.F hr, hm⟩
theorem mapPutV_sound (hT : TabOk P T) (R : RelH C h w g) {t : TypeId} {m ix xv v : V} {x y u : Value} {c : List Prop} {h' : Heap} (hs : mapPutV T t m ix xv h = some (c, v, h')) (hm : RV C w g m x) (hi : RV C w g ix y) (hu : RV C w g xv u) :
    v = .any ∧ ∃ w' g', (Instr.mapUpdate t x y u).run P w = .ok () w' ∧ WRes C w g fresh v h' undef w' g' := by
  unfold mapPutV at hs
  split at hs
  · rename_i k zv id yb hmt hvb
    obtain ⟨tk, te, kd, g1, g2, g3, _, g5, g6⟩ := mapT_of hT hmt
    split at hs
    · rename_i k' e' l' a ho hkv
      split at hs
      · rename_i l hcast
        obtain ⟨rfl, rfl, hl⟩ := castM_eq hcast
        simp at hl
        subst hl
        simp only [Option.some.injEq, Prod.mk.injEq] at hs
        obtain ⟨rfl, rfl, rfl⟩ := hs
        obtain ⟨blk, es, clock, h1, rfl, h2, h3, h4⟩ := mp_obj R ho hm
        have hkr := keyV_rel hkv hi
        have hur : rep w g.F Ty.bool yb [u] := by
          have := vbool_rel hvb hu
          subst this; rfl
        obtain ⟨r, hr, hF⟩ := find_rep g6 hkr l' es.toList 0 h3
        have hck := run_checkKey (P := P) (w := w) g2 (by rcases g6 with ⟨q, _, h⟩ | ⟨_, h⟩; exact .inl ⟨q, h⟩; exact .inr h) false y
        have hfk : (Instr.findKey tk y es.toList).run P w = .ok r w := by
          simp [Instr.findKey, run_underlying g2, hr]
        have hlt := (Array.getElem?_eq_some_iff.1 h2).1
        refine ⟨rfl, ?_⟩
        cases r with
        | none =>
          have hput := hF.put yb u hur clock
          obtain ⟨R', e'⟩ := R.setMap (l' := mapPut k' a yb l') ho h1 (es := es.push { key := y, val := u, born := clock }) (clock := clock + 1) hlt (by simpa using hput) h4
          refine ⟨_, g, ?_, R', e', by simp [RV], fun id h => .inl h⟩
          simp [Instr.mapUpdate, run_underlying g1, gom h2, hck, hfk, som _ h2]
        | some p =>
          obtain ⟨j, u0⟩ := p
          obtain ⟨_, en, hen, hkey⟩ := hF.at_ j u0 rfl
          have hput := hF.put yb u hur
          simp only [Nat.sub_zero] at hput hen
          have hen' : es[j]? = some en := by simpa using hen
          obtain ⟨R', e'⟩ := R.setMap (l' := mapPut k' a yb l') ho h1 (es := es.modify j fun e => { e with key := y, val := u }) (clock := clock) hlt (by simpa using hput) h4
          refine ⟨_, g, ?_, R', e', by simp [RV], fun id h => .inl h⟩
          have hks := keyThatStays_same (P := P) (w := w) g6 hkr
          simp [Instr.mapUpdate, run_underlying g1, gom h2, hck, hfk, hen', hkey, hks, som _ h2]
      · simp at hs
    · simp at hs
  · simp at hs
theorem mapDelV_sound (hT : TabOk P T) (R : RelH C h w g) {t ty : TypeId} {ts : Array TypeId} {m ix v : V} {x y : Value} {c : List Prop} {h' : Heap} (hts : ts[0]? = some t) (hs : mapDelV T t m ix h = some (c, v, h')) (hm : RV C w g m x) (hi : RV C w g ix y) :
    ∃ val w' g', (Builtin.delete_ ts ty #[x, y]).run P w = .ok val w' ∧ WRes C w g fresh v h' val w' g' := by
  unfold mapDelV at hs
  split at hs
  · rename_i k zv id hmt
    obtain ⟨tk, te, kd, g1, g2, g3, _, g5, g6⟩ := mapT_of hT hmt
    split at hs
    · rename_i k' e' l' a ho hkv
      split at hs
      · rename_i l hcast
        obtain ⟨rfl, rfl, hl⟩ := castM_eq hcast
        simp at hl
        subst hl
        simp only [Option.some.injEq, Prod.mk.injEq] at hs
        obtain ⟨rfl, rfl, rfl⟩ := hs
        obtain ⟨blk, es, clock, h1, rfl, h2, h3, h4⟩ := mp_obj R ho hm
        have hkr := keyV_rel hkv hi
        obtain ⟨r, hr, hF⟩ := find_rep g6 hkr l' es.toList 0 h3
        have hck := run_checkKey (P := P) (w := w) g2 (by rcases g6 with ⟨q, _, h⟩ | ⟨_, h⟩; exact .inl ⟨q, h⟩; exact .inr h) es.isEmpty y
        have hfk : (Instr.findKey tk y es.toList).run P w = .ok r w := by
          simp [Instr.findKey, run_underlying g2, hr]
        have hlt := (Array.getElem?_eq_some_iff.1 h2).1
        have hdel := hF.del
        have htup : ∀ w' : World, RV C w' g (.tup []) (.tuple #[]) := fun w' => by simp only [RV]; exact ⟨[], rfl, rfl⟩
        cases r with
        | none =>
          simp only at hdel
          obtain ⟨R', e'⟩ := R.setMap (l' := mapDel k' a l') ho h1 (es := es) (clock := clock) hlt (by rw [hdel]; exact h3) h4
          refine ⟨.tuple #[], _, g, ?_, R', e', htup _, fun id h => .inl h⟩
          simp [Builtin.delete_, hts, run_underlying g1, gom h2, hck, hfk, som _ h2]
        | some p =>
          obtain ⟨j, u0⟩ := p
          simp only [Nat.sub_zero] at hdel
          obtain ⟨R', e'⟩ := R.setMap (l' := mapDel k' a l') ho h1 (es := es.eraseIdxIfInBounds j) (clock := clock) hlt (by simpa using hdel) h4
          refine ⟨.tuple #[], _, g, ?_, R', e', htup _, fun id h => .inl h⟩
          simp [Builtin.delete_, hts, run_underlying g1, gom h2, hck, hfk, som _ h2]
      · simp at hs
    · simp at hs
  · simp at hs
end
end Go.Eng
