import Derived.Test.YtlfehkoklgmjjaaEngH
/- Each operation does what the abstract step says: what turns what is there. -/
set_option linter.unusedVariables false
set_option linter.unusedSimpArgs false
namespace Go.Eng
open Go.RowKit (Below)

section
variable {C : Cx} {w w' : World} {g g' : Gh} {h : Heap} {P : Program} {T : Tab} {fresh : Nat}

/-- What any operation leaves. -/
structure WRes (C : Cx) (w : World) (g : Gh) (fresh : Nat) (v : V) (h' : Heap) (x : Value) (w' : World) (g' : Gh) : Prop where
  rel : RelH C h' w' g'
  evo : Evo w g w' g'
  val : RV C w' g' v x
  U : ∀ id, g'.U id → g.U id ∨ (fresh ≤ id ∧ id < fresh + 8)
theorem QRes.wres {v : V} {news : Heap} {x : Value} (R : RelH C h w g) (q : QRes C w g fresh v news x w' g') : WRes C w g fresh v (news ++ h) x w' g' :=
  ⟨R.quiet q, q.evo R.F, q.val, q.U⟩

theorem lookN_setObj : ∀ (h : Heap) (id : Nat) (o : Obj) (k : Nat), lookN (setObj h id o) k = if k = id then (lookN h id).map (fun _ => o) else lookN h k
  | [], id, o, k => by simp [setObj, lookN]
  | (n, o') :: r, id, o, k => by
    simp only [setObj]
    cases hq : Nat.beq n id
    · have hne : n ≠ id := fun e => by subst e; simp at hq
      simp only [lookN]
      cases hk : Nat.beq n k
      · rw [lookN_setObj r id o k]
        by_cases hki : k = id
        · subst hki; simp [hk, hq]
        · simp [hki]
      · obtain rfl := Nat.eq_of_beq_eq_true hk
        simp [hne]
    · obtain rfl := Nat.eq_of_beq_eq_true hq
      simp only [lookN]
      by_cases hk : k = n
      · subst hk; simp
      · have : Nat.beq n k = false := by
          cases hb : Nat.beq n k
          · rfl
          · exact absurd (Nat.eq_of_beq_eq_true hb).symm hk
        simp [this, hk]
theorem lookN_delObj : ∀ (h : Heap) (id : Nat) (k : Nat), lookN (delObj h id) k = if k = id then none else lookN h k
  | [], id, k => by simp [delObj, lookN]
  | (n, o') :: r, id, k => by
    simp only [delObj]
    cases hq : Nat.beq n id
    · have hne : n ≠ id := fun e => by subst e; simp at hq
      simp only [lookN]
      cases hk : Nat.beq n k
      · rw [lookN_delObj r id k]
      · obtain rfl := Nat.eq_of_beq_eq_true hk
        simp [hne]
    · obtain rfl := Nat.eq_of_beq_eq_true hq
      rw [lookN_delObj r n k]
      by_cases hk : k = n
      · simp [hk]
      · have : Nat.beq n k = false := by
          cases hb : Nat.beq n k
          · rfl
          · exact absurd (Nat.eq_of_beq_eq_true hb).symm hk
        simp [lookN, this, hk]

/-- One block written, the thing in it told anew. -/
theorem RelH.write (R : RelH C h w g) {id : Nat} {o o' : Obj} (ho : lookN h id = some o) (hm : o.mut = true) (hm' : o'.mut = true) {blk : Nat} (hblk : ablk (g.anch id) = some blk)
    (hw : ∀ b, b ≠ blk → w'.heap[b]? = w.heap[b]?) (hs : w'.heap.size = w.heap.size) (hos : w'.os = w.os) (htp : w'.tape = w.tape) (hou : w'.output = w.output)
    (ho' : Evo w g w' g → RO C w' g id o') : RelH C (setObj h id o') w' g ∧ Evo w g w' g := by
  obtain ⟨hU, hO⟩ := R.obj id o ho
  obtain ⟨hlt, hmo⟩ := RO_block hO hm hblk
  have e : Evo w g w' g := ⟨fun b hb => ⟨hb, hw b (fun e => hmo.2 (e ▸ hb))⟩, fun id h => ⟨h, rfl⟩⟩
  refine ⟨⟨fun b hb => ?_, by rw [hs]; exact R.size, hos.trans R.os, htp.trans R.tape, hou.trans R.output, fun b hb => by rw [hs]; exact R.F b hb, R.Fin, R.pin, R.lam, fun k o1 hk => ?_, ?_⟩, e⟩
  · have hne : b ≠ blk := by
      rintro rfl
      rcases hmo.1 with h1 | h1
      · exact hb.2 h1
      · have := hb.1; omega
    exact (hw b hne).trans (R.keep b hb)
  · rw [lookN_setObj] at hk
    by_cases hki : k = id
    · subst hki
      rw [if_pos rfl, ho] at hk
      simp at hk
      subst hk
      exact ⟨hU, ho' e⟩
    · rw [if_neg hki] at hk
      obtain ⟨hU1, hO1⟩ := R.obj k o1 hk
      refine ⟨hU1, RO_mono hU1 hO1 e fun b hmb hb => ⟨hw b ?_, (RO_block hO1 hmb hb).2.2⟩⟩
      rintro rfl
      exact hki (R.sep k o1 id o b hk ho hmb hm hb hblk)
  · intro k1 o1 k2 o2 b hk1 hk2 hm1 hm2 hb1 hb2
    rw [lookN_setObj] at hk1 hk2
    have aux : ∀ k o1, (if k = id then Option.map (fun _ => o') (lookN h id) else lookN h k) = some o1 → o1.mut = true → ∃ o2, lookN h k = some o2 ∧ o2.mut = true := by
      intro k o1 hk hm
      by_cases hki : k = id
      · subst hki; exact ⟨o, ho, ‹_›⟩
      · rw [if_neg hki] at hk; exact ⟨o1, hk, hm⟩
    obtain ⟨p1, q1, q2⟩ := aux k1 o1 hk1 hm1
    obtain ⟨p2, q3, q4⟩ := aux k2 o2 hk2 hm2
    exact R.sep k1 p1 k2 p2 b q1 q3 q2 q4 hb1 hb2

/-- A mutable slice frozen. -/
theorem RelH.freeze (R : RelH C h w g) {id : Nat} {te : TypeId} {e : Ty} {xs : List e.den} (ho : lookN h id = some (.arr te e xs)) :
    RelH C (setObj h id (.ice e xs)) w ⟨g.anch, fun b => g.F b ∨ ablk (g.anch id) = some b, g.U⟩ ∧ Evo w g w ⟨g.anch, fun b => g.F b ∨ ablk (g.anch id) = some b, g.U⟩ := by
  have ev : Evo w g w ⟨g.anch, fun b => g.F b ∨ ablk (g.anch id) = some b, g.U⟩ := ⟨fun b hb => ⟨.inl hb, rfl⟩, fun id h => ⟨h, rfl⟩⟩
  obtain ⟨hU, hO⟩ := R.obj id _ ho
  refine ⟨⟨R.keep, R.size, R.os, R.tape, R.output, fun b hb => ?_, fun b hb => hb.elim (R.Fin b) (fun h1 => .inr (RO_block hO rfl h1).2.1), ev.pin R.pin, R.lam, fun k o1 hk => ?_, ?_⟩, ev⟩
  · rcases hb with hb | hb
    · exact R.F b hb
    · exact (RO_block hO rfl hb).1
  · rw [lookN_setObj] at hk
    by_cases hki : k = id
    · subst hki
      rw [if_pos rfl, ho] at hk
      simp at hk
      subst hk
      refine ⟨hU, ?_⟩
      simp only [RO]
      obtain ⟨A, cap, cells, q⟩ := view_of_arr hO
      have hb : ∀ ad, A = some ad → ablk (g.anch k) = some ad.block := fun ad hA => by rw [q.val, hA]; rfl
      have hrep := View.rep (own := true) q (fun h => by simp at h)
      -- the same reading, with the block among the frozen ones
      rw [q.val] at hrep ⊢
      cases A with
      | none =>
        have h0 := q.nil rfl
        have : xs = [] := List.eq_nil_of_length_eq_zero (by have := q.le; omega)
        subst this
        simp only [rep]
        exact ⟨none, cap, rfl, by simp, by rw [h0]; simp, fun _ => h0, fun i hi => by simp at hi⟩
      | some ad =>
        exact rep_of_rows (reps_mono (fun b hb => ⟨.inl hb, rfl⟩) e xs cells q.rows) (.inr rfl) q.le q.max (q.cell ad rfl)
    · rw [if_neg hki] at hk
      obtain ⟨hU1, hO1⟩ := R.obj k o1 hk
      refine ⟨hU1, RO_mono hU1 hO1 ev fun b hmb hb => ⟨rfl, ?_⟩⟩
      rintro (hF | hF)
      · exact (RO_block hO1 hmb hb).2.2 hF
      · exact hki (R.sep k o1 id _ b hk ho hmb rfl hb hF)
  · intro k1 o1 k2 o2 b hk1 hk2 hm1 hm2 hb1 hb2
    rw [lookN_setObj] at hk1 hk2
    have aux : ∀ k o1, (if k = id then Option.map (fun _ => Obj.ice e xs) (lookN h id) else lookN h k) = some o1 → o1.mut = true → lookN h k = some o1 := by
      intro k o1 hk hm
      by_cases hki : k = id
      · subst hki
        rw [if_pos rfl, ho] at hk
        simp at hk
        subst hk
        simp [Obj.mut] at hm
      · rw [if_neg hki] at hk; exact hk
    exact R.sep k1 o1 k2 o2 b (aux _ _ hk1 hm1) (aux _ _ hk2 hm2) hm1 hm2 hb1 hb2

theorem freezeAll_sound : ∀ (vs : List V) (h : Heap) (g : Gh), RelH C h w g → ∃ F', RelH C (freezeAll h vs) w ⟨g.anch, F', g.U⟩ ∧ Evo w g w ⟨g.anch, F', g.U⟩ ∧ (∀ id o, lookN h id = some o → ∃ o', lookN (freezeAll h vs) id = some o' ∧ (o'.mut = true → o' = o))
  | [], h, g, R => ⟨g.F, by simpa [freezeAll] using R, ⟨fun b hb => ⟨hb, rfl⟩, fun id h => ⟨h, rfl⟩⟩, fun id o ho => ⟨o, by simpa [freezeAll] using ho, fun _ => rfl⟩⟩
  | v :: r, h, g, R => by
    have skip : freezeAll h (v :: r) = freezeAll h r → ∃ F', RelH C (freezeAll h (v :: r)) w ⟨g.anch, F', g.U⟩ ∧ Evo w g w ⟨g.anch, F', g.U⟩ ∧ (∀ id o, lookN h id = some o → ∃ o', lookN (freezeAll h (v :: r)) id = some o' ∧ (o'.mut = true → o' = o)) := by
      intro he
      rw [he]
      exact freezeAll_sound r h g R
    cases v
    case own id =>
      simp only [freezeAll]
      split
      · rename_i te e xs ho
        obtain ⟨R1, e1⟩ := R.freeze ho
        obtain ⟨F', R2, e2, h2⟩ := freezeAll_sound r _ _ R1
        refine ⟨F', R2, e1.trans e2, fun k o hk => ?_⟩
        by_cases hki : k = id
        · subst hki
          obtain ⟨o', q1, q2⟩ := h2 k (.ice e xs) (by rw [lookN_setObj, if_pos rfl, ho]; rfl)
          exact ⟨o', q1, fun hm => by have := q2 hm; subst this; simp [Obj.mut] at hm⟩
        · exact h2 k o (by rw [lookN_setObj, if_neg hki]; exact hk)
      · exact freezeAll_sound r h g R
    all_goals exact skip rfl

theorem splice_take {α : Type} (cur y : List α) {o k N : Nat} (hy : y.length = k) (h : o + k ≤ N) (hN : N ≤ cur.length) :
    (cur.take o ++ y ++ cur.drop (o + k)).take N = (cur.take N).take o ++ y ++ (cur.take N).drop (o + k) := by
  rw [List.take_append, List.take_of_length_le (by simp; omega), List.take_take, Nat.min_eq_left (by omega), List.drop_take]
  congr 2
  simp; omega
theorem splice_row {α : Type} (cells y : List α) {r col k m : Nat} (hy : y.length = k) (h : col + k ≤ m) (hN : r + m ≤ cells.length) :
    cells.take (r + col) ++ y ++ cells.drop (r + col + k) = cells.take r ++ (((cells.drop r).take m).take col ++ y ++ ((cells.drop r).take m).drop (col + k)) ++ cells.drop (r + m) := by
  have h1 : cells.take (r + col) = cells.take r ++ ((cells.drop r).take m).take col := by
    rw [List.take_add, List.take_take, Nat.min_eq_left (by omega)]
  have h2 : cells.drop (r + col + k) = ((cells.drop r).take m).drop (col + k) ++ cells.drop (r + m) := by
    have h3 : cells.drop r = (cells.drop r).take m ++ cells.drop (r + m) := by
      rw [← List.drop_drop, List.take_append_drop]
    rw [show r + col + k = r + (col + k) by omega, ← List.drop_drop]
    conv => lhs; rw [h3]
    rw [List.drop_append_of_le_length (by simp; omega)]
  rw [h1, h2]
  simp

/-! ## Stores -/
theorem run_storeVar_at {t : TypeId} {inf : TypeInfo} (hi : P.info? t = some inf) {blk o : Nat} {te : TypeId} {cur : Array Value} {x : Value} (hg : w.heap[blk]? = some (.cells cur te (0, 0))) (hx : x.cells.size = inf.size)
    (hfit : o + x.cells.size ≤ cur.size) (h1 : ∀ v ∈ x.cells.toList, v.oneCell' = true) :
    (storeVar t ⟨blk, o, none⟩ x).run P w = .ok () (w.setRow blk (cur.toList.take o ++ x.cells.toList ++ cur.toList.drop (o + x.cells.size)).toArray) := by
  have := run_storeCells_at P blk o te x.cells.toList 0 cur w hg (by simpa using hfit) h1
  simp [storeVar, sizeOf, typeInfo, hi, hx, this]

theorem storeV_sound (hT : TabOk P T) (R : RelH C h w g) {t : TypeId} {a v r : V} {x y : Value} {c : List Prop} {h' : Heap} (hs : storeV T t a v h = some (c, r, h')) (hc : ∀ p ∈ c, p)
    (ha : RV C w g a x) (hv : RV C w g v y) : ∃ w' g', (Instr.storeAt t x y).run P w = .ok () w' ∧ WRes C w g fresh .any h' undef w' g' := by
  unfold storeV at hs
  cases hti : T.ti t with
  | none => simp [hti] at hs
  | some i =>
    obtain ⟨inf, u, z, g1, g2, g3, g4, g5, g6⟩ := ti_of hT hti
    simp only [hti] at hs
    cases hb : (Nat.beq v.cells.length i.size && v.cells.all V.one)
    · simp [hb] at hs
    simp only [hb] at hs
    simp only [Bool.and_eq_true] at hb
    have hlen := Nat.eq_of_beq_eq_true hb.1
    have hcv := RV_cells hv hb.2
    have hone := RVs_one hb.2 hcv
    have hsz : y.cells.size = inf.size := by have := RVs_len hcv; simp at this; omega
    cases a <;> simp only at hs
    all_goals try (simp at hs; done)
    case ptr id col =>
      simp only [RV] at ha
      obtain ⟨hU, ad, h1, rfl⟩ := ha
      cases ho : lookN h id with
      | none => simp [ho] at hs
      | some o =>
        cases o <;> simp only [ho] at hs
        all_goals try (simp at hs; done)
        rename_i cs
        cases hbl : Nat.ble (col + i.size) cs.length
        · simp [hbl] at hs
        simp only [hbl, ok1, Option.some.injEq, Prod.mk.injEq] at hs
        obtain ⟨rfl, rfl, rfl⟩ := hs
        have hle := Nat.le_of_ble_eq_true hbl
        obtain ⟨_, blk, vs, te, k1, k2, k3, k4, k5⟩ := R.obj id _ ho
        rw [h1] at k1
        simp at k1
        subst k1
        have hvl := RVs_len k3
        have hrun := run_storeVar_at (P := P) (w := w) g1 (o := col) k2 hsz (by simp; omega) hone
        generalize hw' : w.setRow blk (vs.toArray.toList.take col ++ y.cells.toList ++ vs.toArray.toList.drop (col + y.cells.size)).toArray = w' at hrun
        obtain ⟨R', e'⟩ := R.write (w' := w') (o' := .box (setAt cs col v.cells)) ho rfl rfl (blk := blk) (by rw [h1]; rfl) (fun b hb => by rw [← hw']; exact setRow_other w blk b _ hb) (by rw [← hw']; simp [World.setRow])
          (by rw [← hw']; rfl) (by rw [← hw']; rfl) (by rw [← hw']; rfl) (fun e => by
            refine ⟨blk, vs.take col ++ y.cells.toList ++ vs.drop (col + y.cells.toList.length), te, h1, ?_, ?_, one_setAt k4 hone _ _, k5⟩
            · rw [← hw', setRow_heap w blk _ _ te _ k2]
              simp
            · exact RVs_mono e _ _ (RVs_setAt k3 hcv col))
        refine ⟨w', g, by simp [Instr.storeAt, Instr.sureAddr, addr_add, hrun], R', e', by simp [RV], fun id h => .inl h⟩
    case ep id e row col =>
      simp only [RV] at ha
      obtain ⟨hU, ad, n, cp, h1, rfl⟩ := ha
      obtain ⟨F', R1, e1, _⟩ := freezeAll_sound (w := w) v.cells h g R
      cases ho1 : lookN (freezeAll h v.cells) id with
      | none => simp [ho1] at hs
      | some o =>
        cases o <;> simp only [ho1] at hs
        all_goals try (simp at hs; done)
        rename_i te e' xs'
        cases hcast : castL e' e xs' with
        | none => simp [hcast] at hs
        | some xs =>
          simp only [hcast] at hs
          obtain ⟨rfl, hxs⟩ := castL_eq hcast
          simp at hxs
          subst hxs
          cases hbl : Nat.ble (col + i.size) e'.cells
          · simp [hbl] at hs
          simp only [hbl] at hs
          have hle := Nat.le_of_ble_eq_true hbl
          split at hs
          · rename_i yv hden
            simp only [Option.some.injEq, Prod.mk.injEq] at hs
            obtain ⟨rfl, rfl, rfl⟩ := hs
            have hrow : row < xs'.length := hc _ (by simp)
            obtain ⟨_, cells, k1, k2, k3, k4⟩ := R1.obj id _ ho1
            have hcv1 := RVs_mono e1 _ _ hcv
            obtain ⟨ci, hrep, htk⟩ := reps_at e' xs' cells k2 row hrow
            rw [getD_get _ _ _ hrow] at hden
            have hden' := toDen_all R1 hden (RVs_setAt (RVs_ofDen (C := C) e' _ ci hrep) hcv1 col)
            rcases k1.2 with ⟨hnil, hn0⟩ | ⟨gg, cap, cur, hval, _, hheap, hncap, hcm, hcs, htake⟩
            · omega
            · have h1' : (⟨g.anch, F', g.U⟩ : Gh).anch id = g.anch id := rfl
              rw [h1', h1] at hval
              simp at hval
              obtain ⟨rfl, rfl, rfl⟩ := hval
              have hrl : row * e'.cells + e'.cells ≤ xs'.length * e'.cells := by
                have : (row + 1) * e'.cells ≤ xs'.length * e'.cells := Nat.mul_le_mul_right _ hrow
                rw [Nat.add_mul, Nat.one_mul] at this; exact this
              have hcl : xs'.length * e'.cells ≤ cp * e'.cells := Nat.mul_le_mul_right _ hncap
              have hrun := run_storeVar_at (P := P) (w := w) g1 (o := row * e'.cells + col) hheap hsz (by omega) hone
              generalize hw' : w.setRow gg (cur.toList.take (row * e'.cells + col) ++ y.cells.toList ++ cur.toList.drop (row * e'.cells + col + y.cells.size)).toArray = w' at hrun
              have hcil := rep_len e' _ ci hrep
              have hyl : y.cells.toList.length = y.cells.size := by simp
              obtain ⟨R', e2⟩ := R1.write (w' := w') (o' := .arr te e' (xs'.set row yv)) ho1 rfl rfl (blk := gg) (by rw [h1', h1]; rfl) (fun b hb => by rw [← hw']; exact setRow_other w gg b _ hb) (by rw [← hw']; simp [World.setRow])
                (by rw [← hw']; rfl) (by rw [← hw']; rfl) (by rw [← hw']; rfl) (fun ev => by
                  have hcells : cells.length = xs'.length * e'.cells := k1.1
                  refine ⟨cells.take (row * e'.cells + col) ++ y.cells.toList ++ cells.drop (row * e'.cells + col + y.cells.size), ⟨by simp; omega, .inr ⟨gg, cp, (cur.toList.take (row * e'.cells + col) ++ y.cells.toList ++ cur.toList.drop (row * e'.cells + col + y.cells.size)).toArray, ?_, Nat.zero_le _, ?_, by simpa using hncap, hcm, ?_, ?_⟩⟩, ?_, k3, k4⟩
                  · rw [h1', h1]; simp
                  · rw [← hw']; exact setRow_heap w gg _ _ te _ hheap
                  · simp; omega
                  · simp only [List.length_set]
                    rw [← htake]
                    exact splice_take _ _ hyl (by omega) (by simp; omega)
                  · have hsp := splice_row cells y.cells.toList hyl (r := row * e'.cells) (col := col) (m := e'.cells) (by omega) (by omega)
                    rw [htk] at hsp
                    rw [hsp]
                    have hx : xs'.set row yv = xs'.take row ++ [yv] ++ xs'.drop (row + 1) := by
                      rw [List.set_eq_take_append_cons_drop, if_pos hrow]; simp
                    rw [hx]
                    rw [hyl] at hden'
                    have hd := reps_drop e' _ _ (reps_mono ev.F e' _ _ k2) (row + 1)
                    rw [Nat.add_mul, Nat.one_mul] at hd
                    exact reps_append e' _ _ _ _ (reps_append e' _ _ _ _ (reps_take e' _ _ (reps_mono ev.F e' _ _ k2) row) ⟨_, [], by simp, rep_mono ev.F e' _ _ hden', rfl⟩) hd)
              refine ⟨w', ⟨g.anch, F', g.U⟩, by simp [Instr.storeAt, Instr.sureAddr, addr_add, hrun], R', e1.trans e2, by simp [RV], fun id h => .inl h⟩
          · simp at hs

/-- A mutable thing made one that nobody writes any more, its block marked. -/
theorem RelH.turn (R : RelH C h w g) {id : Nat} {o o' : Obj} (ho : lookN h id = some o) (hm : o.mut = true) (hm' : o'.mut = false) {blk : Nat} (hblk : ablk (g.anch id) = some blk)
    (hw : ∀ b, b ≠ blk → w'.heap[b]? = w.heap[b]?) (hs : w'.heap.size = w.heap.size) (hos : w'.os = w.os) (htp : w'.tape = w.tape) (hou : w'.output = w.output)
    (ho' : RO C w' ⟨g.anch, fun b => g.F b ∨ b = blk, g.U⟩ id o') : RelH C (setObj h id o') w' ⟨g.anch, fun b => g.F b ∨ b = blk, g.U⟩ ∧ Evo w g w' ⟨g.anch, fun b => g.F b ∨ b = blk, g.U⟩ := by
  obtain ⟨hU, hO⟩ := R.obj id o ho
  obtain ⟨hlt, hmo⟩ := RO_block hO hm hblk
  have e : Evo w g w' ⟨g.anch, fun b => g.F b ∨ b = blk, g.U⟩ := ⟨fun b hb => ⟨.inl hb, hw b (fun e => hmo.2 (e ▸ hb))⟩, fun id h => ⟨h, rfl⟩⟩
  refine ⟨⟨fun b hb => ?_, by rw [hs]; exact R.size, hos.trans R.os, htp.trans R.tape, hou.trans R.output, fun b hb => ?_, fun b hb => ?_, e.pin R.pin, R.lam, fun k o1 hk => ?_, ?_⟩, e⟩
  · have hne : b ≠ blk := by
      rintro rfl
      rcases hmo.1 with h1 | h1
      · exact hb.2 h1
      · have := hb.1; omega
    exact (hw b hne).trans (R.keep b hb)
  · rw [hs]
    rcases hb with hb | rfl
    · exact R.F b hb
    · exact hlt
  · rcases hb with hb | rfl
    · exact R.Fin b hb
    · exact .inr hmo.1
  · rw [lookN_setObj] at hk
    by_cases hki : k = id
    · subst hki
      rw [if_pos rfl, ho] at hk
      simp at hk
      subst hk
      exact ⟨hU, ho'⟩
    · rw [if_neg hki] at hk
      obtain ⟨hU1, hO1⟩ := R.obj k o1 hk
      refine ⟨hU1, RO_mono hU1 hO1 e fun b hmb hb => ?_⟩
      have hne : b ≠ blk := by
        rintro rfl
        exact hki (R.sep k o1 id o b hk ho hmb hm hb hblk)
      refine ⟨hw b hne, fun hF => ?_⟩
      rcases hF with hF | hF
      · exact (RO_block hO1 hmb hb).2.2 hF
      · exact hne hF
  · intro k1 o1 k2 o2 b hk1 hk2 hm1 hm2 hb1 hb2
    rw [lookN_setObj] at hk1 hk2
    have aux : ∀ k o1, (if k = id then Option.map (fun _ => o') (lookN h id) else lookN h k) = some o1 → o1.mut = true → lookN h k = some o1 := by
      intro k o1 hk hmk
      by_cases hki : k = id
      · subst hki
        rw [if_pos rfl, ho] at hk
        simp at hk
        subst hk
        rw [hm'] at hmk; cases hmk
      · rw [if_neg hki] at hk; exact hk
    exact R.sep k1 o1 k2 o2 b (aux _ _ hk1 hm1) (aux _ _ hk2 hm2) hm1 hm2 hb1 hb2

theorem freeze_at (w : World) {blk k : Nat} {cur : Array Value} {te : TypeId} (hg : w.heap[blk]? = some (.cells cur te (0, 0))) :
    (w.freeze ⟨blk, k, none⟩ 1).heap[blk]? = some (.cells cur te (k, k + 1)) ∧ (∀ b, b ≠ blk → (w.freeze ⟨blk, k, none⟩ 1).heap[b]? = w.heap[b]?) ∧ (w.freeze ⟨blk, k, none⟩ 1).heap.size = w.heap.size := by
  have hlt : blk < w.heap.size := (Array.getElem?_eq_some_iff.1 hg).1
  unfold World.freeze
  rw [if_neg (by decide)]
  refine ⟨?_, fun b hb => ?_, by simp⟩
  · simp only [Array.getElem?_modify]
    rw [if_pos trivial, hg]
    simp
  · simp only [Array.getElem?_modify]
    rw [if_neg (fun e => hb e.symm)]

theorem convOwnV_sound (hT : TabOk P T) (R : RelH C h w g) {src dst : TypeId} {a v : V} {x : Value} {c : List Prop} {h' : Heap} (hs : convOwnV T src dst a h = some (c, v, h')) (hc : ∀ p ∈ c, p) (ha : RV C w g a x) :
    ∃ val w' g', (convert src dst x).run P w = .ok val w' ∧ WRes C w g fresh v h' val w' g' := by
  unfold convOwnV at hs
  split at hs
  · rename_i te _ _ _ _ _ id hbq hti
    obtain rfl := Nat.eq_of_beq_eq_true hbq
    split at hs
    · rename_i _ _ _ _ _ te' xs hte hl
      simp only [Option.some.injEq, Prod.mk.injEq] at hs
      obtain ⟨rfl, rfl, rfl⟩ := hs
      have h0 : 0 < xs.length := hc _ (by simp)
      obtain ⟨inf, u, z, g1, g2, g3, g4, g5⟩ := ti_of hT hti
      obtain rfl := und_slice g4
      obtain ⟨inf2, u2, z2, m1, m2, m3, m4, m5⟩ := ti_of hT hte
      obtain rfl := und_int m4
      simp only [RV] at ha
      obtain ⟨hU, rfl, _⟩ := ha
      obtain ⟨_, cells, hrow, hreps, hpos, hmut⟩ := R.obj id _ hl
      rcases hrow.2 with ⟨_, hz⟩ | ⟨gg, cap, cur, hval, _, hg, hnc, hcm, hsz, htk⟩
      · omega
      have hsh : w.shape? gg = some (te', cur.size) := by unfold World.shape?; rw [hg]
      obtain ⟨f1, f2, f3⟩ := freeze_at w (k := cur.size) hg
      have hrun : (convert src src (g.anch id)).run P w = .ok (g.anch id) (w.freeze ⟨gg, cur.size, none⟩ 1) := by
        rw [hval]
        simp [convert, run_underlying g2, run_underlying m2, markStringish, hsh]
      have hblk : ablk (g.anch id) = some gg := by rw [hval]; rfl
      have hcl : cells.length = xs.length := by have := reps_len _ xs cells hreps; simpa [Ty.cells] using this
      have hrep : rep (w.freeze ⟨gg, cur.size, none⟩ 1) (fun b => g.F b ∨ b = gg) (.slice (.int .u8)) xs [g.anch id] := by
        rw [hval]
        refine rep_of_rows (reps_mono (fun b hb => ⟨.inl hb, f2 b (fun e => (hmut gg hblk).2 (e ▸ hb))⟩) _ xs cells hreps) (.inr rfl) hnc hcm fun j u hu => ?_
        rw [addr_add, cell_of_row _ _ _ _ _ _ f1]
        rw [← htk, Nat.zero_add] at *
        have hj := (List.getElem?_eq_some_iff.1 hu).1
        rw [List.getElem?_take_of_lt (by simp at hj; omega)] at hu
        simpa using hu
      obtain ⟨R', ev⟩ := R.turn (w' := w.freeze ⟨gg, cur.size, none⟩ 1) (o' := .ice (.int .u8) xs) hl rfl rfl hblk f2 f3 rfl rfl rfl hrep
      exact ⟨_, _, _, hrun, R', ev, by simp only [RV]; exact hrep, fun id h => .inl h⟩
    · simp at hs
  · simp at hs
end
end Go.Eng
