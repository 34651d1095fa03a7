import Derived.Test.YtjifalccioebnaaEng1
import Derived.MapKept
import Derived.Carry
import Derived.Lib.AppendZerosOnto
import Derived.Scope
/- Texts, one behind the other. -/
set_option linter.unusedVariables false
set_option linter.unusedSimpArgs false
namespace Go.Eng
open Go.RowKit (Below)
section
variable {C : Cx} {w w' : World} {g g' : Gh} {h : Heap} {P : Program} {T : Tab} {fresh : Nat}
structure WRes (C : Cx) (w : World) (g : Gh) (fresh : Nat) (v : V) (h' : Heap) (x : Value) (w' : World) (g' : Gh) : Prop where
  rel : RelH C h' w' g'
  evo : Evo w g w' g'
  val : RV C w' g' v x
  U : ∀ id, g'.U id → g.U id ∨ (fresh ≤ id ∧ id < fresh + 8)
theorem QRes.wres {v : V} {news : Heap} {x : Value} (R : RelH C h w g) (q : QRes C w g fresh v news x w' g') : WRes C w g fresh v (news ++ h) x w' g' :=
  ⟨R.quiet q, q.evo R.F, q.val, q.U⟩

theorem lookN_setObj : ∀ (h : Heap) (id : Nat) (o : Obj) (k : Nat), lookN (setObj h id o) k = if k = id then (lookN h id).map (fun _ => o) else lookN h k
  | [], id, o, k => by simp [setObj, lookN]
  | (n, o') :: r, id, o, k => by
    simp only [setObj]
    cases hq : Nat.beq n id
    · have hne : n ≠ id := fun e => by subst e; simp at hq
      simp only [lookN]
      cases hk : Nat.beq n k
      · rw [lookN_setObj r id o k]
        by_cases hki : k = id
        · subst hki; simp [hk, hq]
        · simp [hki]
      · obtain rfl := Nat.eq_of_beq_eq_true hk
        simp [hne]
    · obtain rfl := Nat.eq_of_beq_eq_true hq
      simp only [lookN]
      by_cases hk : k = n
      · subst hk; simp
      · have : Nat.beq n k = false := by
          cases hb : Nat.beq n k
          · rfl
          · exact absurd (Nat.eq_of_beq_eq_true hb).symm hk
        simp [this, hk]
theorem lookN_delObj : ∀ (h : Heap) (id : Nat) (k : Nat), lookN (delObj h id) k = if k = id then none else lookN h k
  | [], id, k => by simp [delObj, lookN]
  | (n, o') :: r, id, k => by
    simp only [delObj]
    cases hq : Nat.beq n id
    · have hne : n ≠ id := fun e => by subst e; simp at hq
      simp only [lookN]
      cases hk : Nat.beq n k
      · rw [lookN_delObj r id k]
      · obtain rfl := Nat.eq_of_beq_eq_true hk
        simp [hne]
    · obtain rfl := Nat.eq_of_beq_eq_true hq
      rw [lookN_delObj r n k]
      by_cases hk : k = n
      · simp [hk]
      · have : Nat.beq n k = false := by
          cases hb : Nat.beq n k
          · rfl
          · exact absurd (Nat.eq_of_beq_eq_true hb).symm hk
        simp [lookN, this, hk]

theorem RelH.write (R : RelH C h w g) {id : Nat} {o o' : Obj} (ho : lookN h id = some o) (hm : o.mut = true) (hm' : o'.mut = true) {blk : Nat} (hblk : ablk (g.anch id) = some blk)
    (hw : ∀ b, b ≠ blk → w'.heap[b]? = w.heap[b]?) (hs : w'.heap.size = w.heap.size) (hos : w'.os = w.os) (htp : w'.tape = w.tape) (hou : w'.output = w.output)
    (ho' : Evo w g w' g → RO C w' g id o') : RelH C (setObj h id o') w' g ∧ Evo w g w' g := by
  obtain ⟨hU, hO⟩ := R.obj id o ho
  obtain ⟨hlt, hmo⟩ := RO_block hO hm hblk
  have e : Evo w g w' g := ⟨fun b hb => ⟨hb, hw b (fun e => hmo.2 (e ▸ hb))⟩, fun id h => ⟨h, rfl⟩⟩
  refine ⟨⟨fun b hb => ?_, by rw [hs]; exact R.size, hos.trans R.os, htp.trans R.tape, hou.trans R.output, fun b hb => by rw [hs]; exact R.F b hb, R.Fin, R.pin, R.lam, fun k o1 hk => ?_, ?_⟩, e⟩
  · have hne : b ≠ blk := by
      rintro rfl
      rcases hmo.1 with h1 | h1
      · exact hb.2 h1
      · have := hb.1; omega
    exact (hw b hne).trans (R.keep b hb)
  · rw [lookN_setObj] at hk
    by_cases hki : k = id
    · subst hki
      rw [if_pos rfl, ho] at hk
      simp at hk
      subst hk
      exact ⟨hU, ho' e⟩
    · rw [if_neg hki] at hk
      obtain ⟨hU1, hO1⟩ := R.obj k o1 hk
      refine ⟨hU1, RO_mono hU1 hO1 e fun b hmb hb => ⟨hw b ?_, (RO_block hO1 hmb hb).2.2⟩⟩
      rintro rfl
      exact hki (R.sep k o1 id o b hk ho hmb hm hb hblk)
  · intro k1 o1 k2 o2 b hk1 hk2 hm1 hm2 hb1 hb2
    rw [lookN_setObj] at hk1 hk2
    have aux : ∀ k o1, (if k = id then Option.map (fun _ => o') (lookN h id) else lookN h k) = some o1 → o1.mut = true → ∃ o2, lookN h k = some o2 ∧ o2.mut = true := by
      intro k o1 hk hm
      by_cases hki : k = id
      · subst hki; exact ⟨o, ho, ‹_›⟩
      · rw [if_neg hki] at hk; exact ⟨o1, hk, hm⟩
    obtain ⟨p1, q1, q2⟩ := aux k1 o1 hk1 hm1
    obtain ⟨p2, q3, q4⟩ := aux k2 o2 hk2 hm2
    exact R.sep k1 p1 k2 p2 b q1 q3 q2 q4 hb1 hb2

theorem RelH.freeze (R : RelH C h w g) {id : Nat} {te : TypeId} {e : Ty} {xs : List e.den} (ho : lookN h id = some (.arr te e xs)) :
    RelH C (setObj h id (.ice e xs)) w ⟨g.anch, fun b => g.F b ∨ ablk (g.anch id) = some b, g.U⟩ ∧ Evo w g w ⟨g.anch, fun b => g.F b ∨ ablk (g.anch id) = some b, g.U⟩ := by
  have ev : Evo w g w ⟨g.anch, fun b => g.F b ∨ ablk (g.anch id) = some b, g.U⟩ := ⟨fun b hb => ⟨.inl hb, rfl⟩, fun id h => ⟨h, rfl⟩⟩
  obtain ⟨hU, hO⟩ := R.obj id _ ho
  refine ⟨⟨R.keep, R.size, R.os, R.tape, R.output, fun b hb => ?_, fun b hb => hb.elim (R.Fin b) (fun h1 => .inr (RO_block hO rfl h1).2.1), ev.pin R.pin, R.lam, fun k o1 hk => ?_, ?_⟩, ev⟩
  · rcases hb with hb | hb
    · exact R.F b hb
    · exact (RO_block hO rfl hb).1
  · rw [lookN_setObj] at hk
    by_cases hki : k = id
    · subst hki
      rw [if_pos rfl, ho] at hk
      simp at hk
      subst hk
      refine ⟨hU, ?_⟩
      simp only [RO]
      obtain ⟨A, cap, cells, q⟩ := view_of_arr hO
      have hb : ∀ ad, A = some ad → ablk (g.anch k) = some ad.block := fun ad hA => by rw [q.val, hA]; rfl
      have hrep := View.rep (own := true) q (fun h => by simp at h)
      -- the same reading, with the block among the frozen ones
      rw [q.val] at hrep ⊢
      cases A with
      | none =>
        have h0 := q.nil rfl
        have : xs = [] := List.eq_nil_of_length_eq_zero (by have := q.le; omega)
        subst this
        simp only [rep]
        exact ⟨none, cap, rfl, by simp, by rw [h0]; simp, fun _ => h0, fun i hi => by simp at hi⟩
      | some ad =>
        exact rep_of_rows (reps_mono (fun b hb => ⟨.inl hb, rfl⟩) e xs cells q.rows) (.inr rfl) q.le q.max (q.cell ad rfl)
    · rw [if_neg hki] at hk
      obtain ⟨hU1, hO1⟩ := R.obj k o1 hk
      refine ⟨hU1, RO_mono hU1 hO1 ev fun b hmb hb => ⟨rfl, ?_⟩⟩
      rintro (hF | hF)
      · exact (RO_block hO1 hmb hb).2.2 hF
      · exact hki (R.sep k o1 id _ b hk ho hmb rfl hb hF)
  · intro k1 o1 k2 o2 b hk1 hk2 hm1 hm2 hb1 hb2
    rw [lookN_setObj] at hk1 hk2
    have aux : ∀ k o1, (if k = id then Option.map (fun _ => Obj.ice e xs) (lookN h id) else lookN h k) = some o1 → o1.mut = true → lookN h k = some o1 := by
      intro k o1 hk hm
      by_cases hki : k = id
      · subst hki
        rw [if_pos rfl, ho] at hk
        simp at hk
        subst hk
        simp [Obj.mut] at hm
      · rw [if_neg hki] at hk; exact hk
    exact R.sep k1 o1 k2 o2 b (aux _ _ hk1 hm1) (aux _ _ hk2 hm2) hm1 hm2 hb1 hb2

theorem RelH.reob (R : RelH C h w g) {id : Nat} {o1 : Obj} (ho : lookN h id = some o1) (hm1 : o1.mut = true) {o : Obj} (hO : RO C w g id o) : RelH C (setObj h id o) w g := by
  have look : ∀ k p, lookN (setObj h id o) k = some p → (k = id ∧ p = o) ∨ (k ≠ id ∧ lookN h k = some p) := fun k p hk => by
    rw [lookN_setObj] at hk
    by_cases he : k = id
    · rw [if_pos he, ho] at hk
      simp at hk
      exact .inl ⟨he, hk.symm⟩
    · rw [if_neg he] at hk
      exact .inr ⟨he, hk⟩
  refine ⟨R.keep, R.size, R.os, R.tape, R.output, R.F, R.Fin, R.pin, R.lam, fun k p hk => ?_, fun k1 p1 k2 p2 b h1 h2 m1 m2 b1 b2 => ?_⟩
  · rcases look k p hk with ⟨rfl, rfl⟩ | ⟨_, h2⟩
    · exact ⟨(R.obj _ _ ho).1, hO⟩
    · exact R.obj k p h2
  · rcases look k1 p1 h1 with ⟨rfl, rfl⟩ | ⟨a1, a2⟩ <;> rcases look k2 p2 h2 with ⟨rfl, rfl⟩ | ⟨c1, c2⟩
    · rfl
    · exact R.sep _ _ _ _ b ho c2 hm1 m2 b1 b2
    · exact R.sep _ _ _ _ b a2 ho m1 hm1 b1 b2
    · exact R.sep _ _ _ _ b a2 c2 m1 m2 b1 b2
theorem setObj_setObj : ∀ (h : Heap) (id : Nat) (o o' : Obj), setObj (setObj h id o) id o' = setObj h id o'
  | [], _, _, _ => rfl
  | (k, p) :: r, id, o, o' => by
    simp only [setObj]
    cases hb : Nat.beq k id <;> simp only [setObj, hb]
    rw [setObj_setObj r id o o']
theorem RO_xar {id : Nat} {te : TypeId} {e : Ty} {xs : List e.den} (ho : RO C w g id (.xar te e xs)) : RO C w g id (.arr te e xs) := ho.1
theorem RO_arx {id : Nat} {te : TypeId} {e : Ty} {rows : List (Bool × List e.den)} (ho : RO C w g id (.arx te e rows)) : RO C w g id (.arr te (.slice e) (rows.map fun p => p.2)) := by
  obtain ⟨cells, h1, h2, _, h4⟩ := ho
  exact ⟨cells, by rw [List.length_map]; exact h1, h2, Nat.zero_lt_one, h4⟩
theorem RelH.freezeX (R : RelH C h w g) {id : Nat} {o : Obj} (ho : lookN h id = some o) (hm : o.mut = true) {te : TypeId} {e : Ty} {xs : List e.den} (hO : RO C w g id (.arr te e xs)) :
    ∃ F', RelH C (setObj h id (.ice e xs)) w ⟨g.anch, F', g.U⟩ ∧ Evo w g w ⟨g.anch, F', g.U⟩ := by
  have R1 := R.reob ho hm hO
  have ho1 : lookN (setObj h id (.arr te e xs)) id = some (.arr te e xs) := by rw [lookN_setObj, if_pos rfl, ho]; rfl
  obtain ⟨R2, e2⟩ := R1.freeze ho1
  rw [setObj_setObj] at R2
  exact ⟨_, R2, e2⟩
theorem freezeAll_sound : ∀ (vs : List V) (h : Heap) (g : Gh), RelH C h w g → ∃ F', RelH C (freezeAll h vs) w ⟨g.anch, F', g.U⟩ ∧ Evo w g w ⟨g.anch, F', g.U⟩ ∧ (∀ id o, lookN h id = some o → ∃ o', lookN (freezeAll h vs) id = some o' ∧ (o'.mut = true → o' = o))
  | [], h, g, R => ⟨g.F, by simpa [freezeAll] using R, ⟨fun b hb => ⟨hb, rfl⟩, fun id h => ⟨h, rfl⟩⟩, fun id o ho => ⟨o, by simpa [freezeAll] using ho, fun _ => rfl⟩⟩
  | v :: r, h, g, R => by
    have skip : freezeAll h (v :: r) = freezeAll h r → ∃ F', RelH C (freezeAll h (v :: r)) w ⟨g.anch, F', g.U⟩ ∧ Evo w g w ⟨g.anch, F', g.U⟩ ∧ (∀ id o, lookN h id = some o → ∃ o', lookN (freezeAll h (v :: r)) id = some o' ∧ (o'.mut = true → o' = o)) := by
      intro he
      rw [he]
      exact freezeAll_sound r h g R
    cases v
    case own id =>
      simp only [freezeAll]
      split
      · rename_i te e xs ho
        obtain ⟨R1, e1⟩ := R.freeze ho
        obtain ⟨F', R2, e2, h2⟩ := freezeAll_sound r _ _ R1
        refine ⟨F', R2, e1.trans e2, fun k o hk => ?_⟩
        by_cases hki : k = id
        · subst hki
          obtain ⟨o', q1, q2⟩ := h2 k (.ice e xs) (by rw [lookN_setObj, if_pos rfl, ho]; rfl)
          exact ⟨o', q1, fun hm => by have := q2 hm; subst this; simp [Obj.mut] at hm⟩
        · exact h2 k o (by rw [lookN_setObj, if_neg hki]; exact hk)
      · rename_i te e xs ho
        obtain ⟨F1, R1, e1⟩ := R.freezeX ho rfl (RO_xar (R.obj id _ ho).2)
        obtain ⟨F', R2, e2, h2⟩ := freezeAll_sound r _ _ R1
        refine ⟨F', R2, e1.trans e2, fun k o hk => ?_⟩
        by_cases hki : k = id
        · subst hki
          obtain ⟨o', q1, q2⟩ := h2 k (.ice e xs) (by rw [lookN_setObj, if_pos rfl, ho]; rfl)
          exact ⟨o', q1, fun hm => by have := q2 hm; subst this; simp [Obj.mut] at hm⟩
        · exact h2 k o (by rw [lookN_setObj, if_neg hki]; exact hk)
      · rename_i te e rows ho
        obtain ⟨F1, R1, e1⟩ := R.freezeX ho rfl (RO_arx (R.obj id _ ho).2)
        obtain ⟨F', R2, e2, h2⟩ := freezeAll_sound r _ _ R1
        refine ⟨F', R2, e1.trans e2, fun k o hk => ?_⟩
        by_cases hki : k = id
        · subst hki
          obtain ⟨o', q1, q2⟩ := h2 k (.ice (.slice e) (rows.map fun p => p.2)) (by rw [lookN_setObj, if_pos rfl, ho]; rfl)
          exact ⟨o', q1, fun hm => by have := q2 hm; subst this; simp [Obj.mut] at hm⟩
        · exact h2 k o (by rw [lookN_setObj, if_neg hki]; exact hk)
      · exact freezeAll_sound r h g R
    all_goals exact skip rfl

theorem splice_take {α : Type} (cur y : List α) {o k N : Nat} (hy : y.length = k) (h : o + k ≤ N) (hN : N ≤ cur.length) :
    (cur.take o ++ y ++ cur.drop (o + k)).take N = (cur.take N).take o ++ y ++ (cur.take N).drop (o + k) := by
  rw [List.take_append, List.take_of_length_le (by simp; omega), List.take_take, Nat.min_eq_left (by omega), List.drop_take]
  congr 2
  simp; omega
theorem splice_row {α : Type} (cells y : List α) {r col k m : Nat} (hy : y.length = k) (h : col + k ≤ m) (hN : r + m ≤ cells.length) :
    cells.take (r + col) ++ y ++ cells.drop (r + col + k) = cells.take r ++ (((cells.drop r).take m).take col ++ y ++ ((cells.drop r).take m).drop (col + k)) ++ cells.drop (r + m) := by
  have h1 : cells.take (r + col) = cells.take r ++ ((cells.drop r).take m).take col := by
    rw [List.take_add, List.take_take, Nat.min_eq_left (by omega)]
  have h2 : cells.drop (r + col + k) = ((cells.drop r).take m).drop (col + k) ++ cells.drop (r + m) := by
    have h3 : cells.drop r = (cells.drop r).take m ++ cells.drop (r + m) := by
      rw [← List.drop_drop, List.take_append_drop]
    rw [show r + col + k = r + (col + k) by omega, ← List.drop_drop]
    conv => lhs; rw [h3]
    rw [List.drop_append_of_le_length (by simp; omega)]
  rw [h1, h2]
  simp

theorem run_storeVar_at {t : TypeId} {inf : TypeInfo} (hi : P.info? t = some inf) {blk o : Nat} {te : TypeId} {cur : Array Value} {x : Value} (hg : w.heap[blk]? = some (.cells cur te (0, 0))) (hx : x.cells.size = inf.size)
    (hfit : o + x.cells.size ≤ cur.size) (h1 : ∀ v ∈ x.cells.toList, v.oneCell' = true) :
    (storeVar t ⟨blk, o, none⟩ x).run P w = .ok () (w.setRow blk (cur.toList.take o ++ x.cells.toList ++ cur.toList.drop (o + x.cells.size)).toArray) := by
  have := run_storeCells_at P blk o te x.cells.toList 0 cur w hg (by simpa using hfit) h1
  simp [storeVar, sizeOf, typeInfo, hi, hx, this]

theorem storeV_sound (hT : TabOk P T) (R : RelH C h w g) {t : TypeId} {a v r : V} {x y : Value} {c : List Prop} {h' : Heap} (hs : storeV T t a v h = some (c, r, h')) (hc : ∀ p ∈ c, p)
    (ha : RV C w g a x) (hv : RV C w g v y) : ∃ w' g', (Instr.storeAt t x y).run P w = .ok () w' ∧ WRes C w g fresh .any h' undef w' g' := by
  unfold storeV at hs
  cases hti : T.ti t with
  | none => simp [hti] at hs
  | some i =>
    obtain ⟨inf, u, z, g1, g2, g3, g4, g5, g6⟩ := ti_of hT hti
    simp only [hti] at hs
    cases hb : (Nat.beq v.cells.length i.size && v.cells.all V.one)
    · simp [hb] at hs
    simp only [hb] at hs
    simp only [Bool.and_eq_true] at hb
    have hlen := Nat.eq_of_beq_eq_true hb.1
    have hcv := RV_cells hv hb.2
    have hone := RVs_one hb.2 hcv
    have hsz : y.cells.size = inf.size := by have := RVs_len hcv; simp at this; omega
    cases a <;> simp only at hs
    all_goals try (simp at hs; done)
    case ptr id col =>
      simp only [RV] at ha
      obtain ⟨hU, ad, h1, rfl⟩ := ha
      cases ho : lookN h id with
      | none => simp [ho] at hs
      | some o =>
        cases o <;> simp only [ho] at hs
        all_goals try (simp at hs; done)
        rename_i cs
        cases hbl : Nat.ble (col + i.size) cs.length
        · simp [hbl] at hs
        simp only [hbl, ok1, Option.some.injEq, Prod.mk.injEq] at hs
        obtain ⟨rfl, rfl, rfl⟩ := hs
        have hle := Nat.le_of_ble_eq_true hbl
        obtain ⟨_, blk, vs, te, k1, k2, k3, k4, k5⟩ := R.obj id _ ho
        rw [h1] at k1
        simp at k1
        subst k1
        have hvl := RVs_len k3
        have hrun := run_storeVar_at (P := P) (w := w) g1 (o := col) k2 hsz (by simp; omega) hone
        generalize hw' : w.setRow blk (vs.toArray.toList.take col ++ y.cells.toList ++ vs.toArray.toList.drop (col + y.cells.size)).toArray = w' at hrun
        obtain ⟨R', e'⟩ := R.write (w' := w') (o' := .box (setAt cs col v.cells)) ho rfl rfl (blk := blk) (by rw [h1]; rfl) (fun b hb => by rw [← hw']; exact setRow_other w blk b _ hb) (by rw [← hw']; simp [World.setRow])
          (by rw [← hw']; rfl) (by rw [← hw']; rfl) (by rw [← hw']; rfl) (fun e => by
            refine ⟨blk, vs.take col ++ y.cells.toList ++ vs.drop (col + y.cells.toList.length), te, h1, ?_, ?_, one_setAt k4 hone _ _, k5⟩
            · rw [← hw', setRow_heap w blk _ _ te _ k2]
              simp
            · exact RVs_mono e _ _ (RVs_setAt k3 hcv col))
        refine ⟨w', g, by simp [Instr.storeAt, Instr.sureAddr, addr_add, hrun], R', e', by simp [RV], fun id h => .inl h⟩
    case ep id e row col =>
      simp only [RV] at ha
      obtain ⟨hU, ad, n, cp, h1, rfl⟩ := ha
      obtain ⟨F', R1, e1, _⟩ := freezeAll_sound (w := w) v.cells h g R
      cases ho1 : lookN (freezeAll h v.cells) id with
      | none => simp [ho1] at hs
      | some o =>
        cases o <;> simp only [ho1] at hs
        all_goals try (simp at hs; done)
        rename_i te e' xs'
        cases hcast : castL e' e xs' with
        | none => simp [hcast] at hs
        | some xs =>
          simp only [hcast] at hs
          obtain ⟨rfl, hxs⟩ := castL_eq hcast
          simp at hxs
          subst hxs
          cases hbl : Nat.ble (col + i.size) e'.cells
          · simp [hbl] at hs
          simp only [hbl] at hs
          have hle := Nat.le_of_ble_eq_true hbl
          split at hs
          · rename_i yv hden
            simp only [Option.some.injEq, Prod.mk.injEq] at hs
            obtain ⟨rfl, rfl, rfl⟩ := hs
            have hrow : row < xs'.length := hc _ (by simp)
            obtain ⟨_, cells, k1, k2, k3, k4⟩ := R1.obj id _ ho1
            have hcv1 := RVs_mono e1 _ _ hcv
            obtain ⟨ci, hrep, htk⟩ := reps_at e' xs' cells k2 row hrow
            rw [getD_get _ _ _ hrow] at hden
            have hden' := toDen_all R1 hden (RVs_setAt (RVs_ofDen (C := C) e' _ ci hrep) hcv1 col)
            rcases k1.2 with ⟨hnil, hn0⟩ | ⟨gg, cap, cur, hval, _, hheap, hncap, hcm, hcs, htake⟩
            · omega
            · have h1' : (⟨g.anch, F', g.U⟩ : Gh).anch id = g.anch id := rfl
              rw [h1', h1] at hval
              simp at hval
              obtain ⟨rfl, rfl, rfl⟩ := hval
              have hrl : row * e'.cells + e'.cells ≤ xs'.length * e'.cells := by
                have : (row + 1) * e'.cells ≤ xs'.length * e'.cells := Nat.mul_le_mul_right _ hrow
                rw [Nat.add_mul, Nat.one_mul] at this; exact this
              have hcl : xs'.length * e'.cells ≤ cp * e'.cells := Nat.mul_le_mul_right _ hncap
              have hrun := run_storeVar_at (P := P) (w := w) g1 (o := row * e'.cells + col) hheap hsz (by omega) hone
              generalize hw' : w.setRow gg (cur.toList.take (row * e'.cells + col) ++ y.cells.toList ++ cur.toList.drop (row * e'.cells + col + y.cells.size)).toArray = w' at hrun
              have hcil := rep_len e' _ ci hrep
              have hyl : y.cells.toList.length = y.cells.size := by simp
              obtain ⟨R', e2⟩ := R1.write (w' := w') (o' := .arr te e' (xs'.set row yv)) ho1 rfl rfl (blk := gg) (by rw [h1', h1]; rfl) (fun b hb => by rw [← hw']; exact setRow_other w gg b _ hb) (by rw [← hw']; simp [World.setRow])
                (by rw [← hw']; rfl) (by rw [← hw']; rfl) (by rw [← hw']; rfl) (fun ev => by
                  have hcells : cells.length = xs'.length * e'.cells := k1.1
                  refine ⟨cells.take (row * e'.cells + col) ++ y.cells.toList ++ cells.drop (row * e'.cells + col + y.cells.size), ⟨by simp; omega, .inr ⟨gg, cp, (cur.toList.take (row * e'.cells + col) ++ y.cells.toList ++ cur.toList.drop (row * e'.cells + col + y.cells.size)).toArray, ?_, Nat.zero_le _, ?_, by simpa using hncap, hcm, ?_, ?_⟩⟩, ?_, k3, k4⟩
                  · rw [h1', h1]; simp
                  · rw [← hw']; exact setRow_heap w gg _ _ te _ hheap
                  · simp; omega
                  · simp only [List.length_set]
                    rw [← htake]
                    exact splice_take _ _ hyl (by omega) (by simp; omega)
                  · have hsp := splice_row cells y.cells.toList hyl (r := row * e'.cells) (col := col) (m := e'.cells) (by omega) (by omega)
                    rw [htk] at hsp
                    rw [hsp]
                    have hx : xs'.set row yv = xs'.take row ++ [yv] ++ xs'.drop (row + 1) := by
                      rw [List.set_eq_take_append_cons_drop, if_pos hrow]; simp
                    rw [hx]
                    rw [hyl] at hden'
                    have hd := reps_drop e' _ _ (reps_mono ev.F e' _ _ k2) (row + 1)
                    rw [Nat.add_mul, Nat.one_mul] at hd
                    exact reps_append e' _ _ _ _ (reps_append e' _ _ _ _ (reps_take e' _ _ (reps_mono ev.F e' _ _ k2) row) ⟨_, [], by simp, rep_mono ev.F e' _ _ hden', rfl⟩) hd)
              refine ⟨w', ⟨g.anch, F', g.U⟩, by simp [Instr.storeAt, Instr.sureAddr, addr_add, hrun], R', e1.trans e2, by simp [RV], fun id h => .inl h⟩
          · simp at hs

theorem RelH.turn (R : RelH C h w g) {id : Nat} {o o' : Obj} (ho : lookN h id = some o) (hm : o.mut = true) (hm' : o'.mut = false) {blk : Nat} (hblk : ablk (g.anch id) = some blk)
    (hw : ∀ b, b ≠ blk → w'.heap[b]? = w.heap[b]?) (hs : w'.heap.size = w.heap.size) (hos : w'.os = w.os) (htp : w'.tape = w.tape) (hou : w'.output = w.output)
    (ho' : RO C w' ⟨g.anch, fun b => g.F b ∨ b = blk, g.U⟩ id o') : RelH C (setObj h id o') w' ⟨g.anch, fun b => g.F b ∨ b = blk, g.U⟩ ∧ Evo w g w' ⟨g.anch, fun b => g.F b ∨ b = blk, g.U⟩ := by
  obtain ⟨hU, hO⟩ := R.obj id o ho
  obtain ⟨hlt, hmo⟩ := RO_block hO hm hblk
  have e : Evo w g w' ⟨g.anch, fun b => g.F b ∨ b = blk, g.U⟩ := ⟨fun b hb => ⟨.inl hb, hw b (fun e => hmo.2 (e ▸ hb))⟩, fun id h => ⟨h, rfl⟩⟩
  refine ⟨⟨fun b hb => ?_, by rw [hs]; exact R.size, hos.trans R.os, htp.trans R.tape, hou.trans R.output, fun b hb => ?_, fun b hb => ?_, e.pin R.pin, R.lam, fun k o1 hk => ?_, ?_⟩, e⟩
  · have hne : b ≠ blk := by
      rintro rfl
      rcases hmo.1 with h1 | h1
      · exact hb.2 h1
      · have := hb.1; omega
    exact (hw b hne).trans (R.keep b hb)
  · rw [hs]
    rcases hb with hb | rfl
    · exact R.F b hb
    · exact hlt
  · rcases hb with hb | rfl
    · exact R.Fin b hb
    · exact .inr hmo.1
  · rw [lookN_setObj] at hk
    by_cases hki : k = id
    · subst hki
      rw [if_pos rfl, ho] at hk
      simp at hk
      subst hk
      exact ⟨hU, ho'⟩
    · rw [if_neg hki] at hk
      obtain ⟨hU1, hO1⟩ := R.obj k o1 hk
      refine ⟨hU1, RO_mono hU1 hO1 e fun b hmb hb => ?_⟩
      have hne : b ≠ blk := by
        rintro rfl
        exact hki (R.sep k o1 id o b hk ho hmb hm hb hblk)
      refine ⟨hw b hne, fun hF => ?_⟩
      rcases hF with hF | hF
      · exact (RO_block hO1 hmb hb).2.2 hF
      · exact hne hF
  · intro k1 o1 k2 o2 b hk1 hk2 hm1 hm2 hb1 hb2
    rw [lookN_setObj] at hk1 hk2
    have aux : ∀ k o1, (if k = id then Option.map (fun _ => o') (lookN h id) else lookN h k) = some o1 → o1.mut = true → lookN h k = some o1 := by
      intro k o1 hk hmk
      by_cases hki : k = id
      · subst hki
        rw [if_pos rfl, ho] at hk
        simp at hk
        subst hk
        rw [hm'] at hmk; cases hmk
      · rw [if_neg hki] at hk; exact hk
    exact R.sep k1 o1 k2 o2 b (aux _ _ hk1 hm1) (aux _ _ hk2 hm2) hm1 hm2 hb1 hb2

theorem freeze_at (w : World) {blk k : Nat} {cur : Array Value} {te : TypeId} (hg : w.heap[blk]? = some (.cells cur te (0, 0))) :
    (w.freeze ⟨blk, k, none⟩ 1).heap[blk]? = some (.cells cur te (k, k + 1)) ∧ (∀ b, b ≠ blk → (w.freeze ⟨blk, k, none⟩ 1).heap[b]? = w.heap[b]?) ∧ (w.freeze ⟨blk, k, none⟩ 1).heap.size = w.heap.size := by
  have hlt : blk < w.heap.size := (Array.getElem?_eq_some_iff.1 hg).1
  unfold World.freeze
  rw [if_neg (by decide)]
  refine ⟨?_, fun b hb => ?_, by simp⟩
  · simp only [Array.getElem?_modify]
    rw [if_pos trivial, hg]
    simp
  · simp only [Array.getElem?_modify]
    rw [if_neg (fun e => hb e.symm)]

theorem convOwnV_sound (hT : TabOk P T) (R : RelH C h w g) {src dst : TypeId} {a v : V} {x : Value} {c : List Prop} {h' : Heap} (hs : convOwnV T src dst a h = some (c, v, h')) (hc : ∀ p ∈ c, p) (ha : RV C w g a x) :
    ∃ val w' g', (convert src dst x).run P w = .ok val w' ∧ WRes C w g fresh v h' val w' g' := by
  unfold convOwnV at hs
  split at hs
  · rename_i te _ _ _ _ _ id hbq hti
    obtain rfl := Nat.eq_of_beq_eq_true hbq
    split at hs
    · rename_i _ _ _ _ _ te' xs hte hl
      simp only [Option.some.injEq, Prod.mk.injEq] at hs
      obtain ⟨rfl, rfl, rfl⟩ := hs
      have h0 : 0 < xs.length := hc _ (by simp)
      obtain ⟨inf, u, z, g1, g2, g3, g4, g5⟩ := ti_of hT hti
      obtain rfl := und_slice g4
      obtain ⟨inf2, u2, z2, m1, m2, m3, m4, m5⟩ := ti_of hT hte
      obtain rfl := und_int m4
      simp only [RV] at ha
      obtain ⟨hU, rfl, _⟩ := ha
      obtain ⟨_, cells, hrow, hreps, hpos, hmut⟩ := R.obj id _ hl
      rcases hrow.2 with ⟨_, hz⟩ | ⟨gg, cap, cur, hval, _, hg, hnc, hcm, hsz, htk⟩
      · omega
      have hsh : w.shape? gg = some (te', cur.size) := by unfold World.shape?; rw [hg]
      obtain ⟨f1, f2, f3⟩ := freeze_at w (k := cur.size) hg
      have hrun : (convert src src (g.anch id)).run P w = .ok (g.anch id) (w.freeze ⟨gg, cur.size, none⟩ 1) := by
        rw [hval]
        simp [convert, run_underlying g2, run_underlying m2, markStringish, hsh]
      have hblk : ablk (g.anch id) = some gg := by rw [hval]; rfl
      have hcl : cells.length = xs.length := by have := reps_len _ xs cells hreps; simpa [Ty.cells] using this
      have hrep : rep (w.freeze ⟨gg, cur.size, none⟩ 1) (fun b => g.F b ∨ b = gg) (.slice (.int .u8)) xs [g.anch id] := by
        rw [hval]
        refine rep_of_rows (reps_mono (fun b hb => ⟨.inl hb, f2 b (fun e => (hmut gg hblk).2 (e ▸ hb))⟩) _ xs cells hreps) (.inr rfl) hnc hcm fun j u hu => ?_
        rw [addr_add, cell_of_row _ _ _ _ _ _ f1]
        rw [← htk, Nat.zero_add] at *
        have hj := (List.getElem?_eq_some_iff.1 hu).1
        rw [List.getElem?_take_of_lt (by simp at hj; omega)] at hu
        simpa using hu
      obtain ⟨R', ev⟩ := R.turn (w' := w.freeze ⟨gg, cur.size, none⟩ 1) (o' := .ice (.int .u8) xs) hl rfl rfl hblk f2 f3 rfl rfl rfl hrep
      exact ⟨_, _, _, hrun, R', ev, by simp only [RV]; exact hrep, fun id h => .inl h⟩
    · simp at hs
  · simp at hs
end
end Go.Eng

set_option linter.unusedVariables false
set_option linter.unusedSimpArgs false
namespace Go.Eng
open Go.RowKit (Below)
section
variable {C : Cx} {w w' : World} {g g' : Gh} {h : Heap} {P : Program} {T : Tab} {fresh : Nat}
theorem ablk_own {v : Value} (h : ∃ A n c, v = .slice A n c) : v.ownBlock = ablk v := by
  obtain ⟨A, n, c, rfl⟩ := h
  cases A <;> rfl

theorem RelH.move (R : RelH C h w g) (hU : ¬ g.U fresh) {id : Nat} {te : TypeId} {e : Ty} {xs ys : List e.den} {cells : List Value} {av : Value} (ho : lookN h id = some (.arr te e xs)) (hsl : ∃ A n c, g.anch id = .slice A n c)
    (hg : w.grownBy w' (g.anch id).ownBlock) (hown : w'.ownsRow 0 te e.cells av ys.length cells) (hr : reps w' g.F e ys cells) (hblk : av.ownBlock = (g.anch id).ownBlock ∨ av.ownBlock = some w.heap.size) (hav : ∃ A n c, av = .slice A n c) :
    WRes C w g fresh (.own fresh) ((fresh, .arr te e ys) :: delObj h id) av w' (g.new fresh av) := by
  obtain ⟨hUi, hOi⟩ := R.obj id _ ho
  have hrow : ∀ b, (g.anch id).ownBlock = some b → b < w.heap.size ∧ MutOk C g b := fun b hb => RO_block hOi rfl (by rw [← ablk_own hsl]; exact hb)
  have hF : ∀ b, g.F b → w'.heap[b]? = w.heap[b]? := fun b hb => hg.block b (R.F b hb) (fun he => (hrow b he.symm).2.2 hb)
  have ev : Evo w g w' (g.new fresh av) := evo_new hU av hF
  have havb : ∀ b, ablk av = some b → MutOk C g b := fun b hb => by
    rw [← ablk_own hav] at hb
    rcases hblk with h1 | h1
    · rw [h1] at hb; exact (hrow b hb).2
    · rw [h1] at hb
      simp at hb
      subst hb
      exact ⟨.inr R.size, fun hFF => by have := R.F _ hFF; omega⟩
  have others : ∀ k o, k ≠ id → lookN h k = some o → ∀ b, o.mut = true → ablk (g.anch k) = some b → b < w.heap.size ∧ some b ≠ (g.anch id).ownBlock := fun k o hk hko b hm hb => by
    refine ⟨(RO_block (R.obj k o hko).2 hm hb).1, fun he => hk ?_⟩
    exact R.sep k o id _ b hko ho hm rfl hb (by rw [← ablk_own hsl]; exact he.symm)
  have look : ∀ k o, lookN ((fresh, Obj.arr te e ys) :: delObj h id) k = some o → (k = fresh ∧ o = .arr te e ys) ∨ (k ≠ fresh ∧ k ≠ id ∧ lookN h k = some o) := fun k o hk => by
    simp only [lookN] at hk
    cases hq : Nat.beq fresh k
    · rw [hq] at hk
      simp only at hk
      rw [lookN_delObj] at hk
      by_cases hki : k = id
      · rw [if_pos hki] at hk; simp at hk
      · rw [if_neg hki] at hk
        exact .inr ⟨fun he => by subst he; simp at hq, hki, hk⟩
    · rw [hq] at hk
      simp only [Option.some.injEq] at hk
      exact .inl ⟨(Nat.eq_of_beq_eq_true hq).symm, hk.symm⟩
  refine ⟨⟨fun b hb => ?_, Nat.le_trans R.size hg.size, hg.os.trans R.os, hg.tape.trans R.tape, hg.output.trans R.output, fun b hb => Nat.lt_of_lt_of_le (R.F b hb) hg.size, R.Fin, ev.pin R.pin, R.lam, fun k o hk => ?_, ?_⟩, ev, ?_, fun k hk => ?_⟩
  · refine (hg.block b (Nat.lt_of_lt_of_le hb.1 R.size) (fun he => ?_)).trans (R.keep b hb)
    rcases (hrow b he.symm).2.1 with h1 | h1
    · exact hb.2 h1
    · have := hb.1; omega
  · rcases look k o hk with ⟨rfl, rfl⟩ | ⟨h1, h2, h3⟩
    · refine ⟨.inr rfl, cells, by rw [show (g.new k av).anch k = av from upd_same _ _ _]; exact hown, hr, ?_, fun b hb => ?_⟩
      · obtain ⟨_, _, _, h0, _⟩ := hOi
        exact h0
      · rw [show (g.new k av).anch k = av from upd_same _ _ _] at hb
        exact havb b hb
    · obtain ⟨q1, q2⟩ := R.obj k o h3
      refine ⟨.inl q1, RO_mono q1 q2 ev fun b hm hb => ?_⟩
      obtain ⟨q3, q4⟩ := others k o h2 h3 b hm hb
      exact ⟨hg.block b q3 q4, (RO_block q2 hm hb).2.2⟩
  · intro k1 o1 k2 o2 b hk1 hk2 hm1 hm2 hb1 hb2
    have anch_old : ∀ k o, k ≠ fresh → lookN h k = some o → (g.new fresh av).anch k = g.anch k := fun k o hk _ => upd_other _ _ _ hk
    have newblk : ∀ b, ablk ((g.new fresh av).anch fresh) = some b → (g.anch id).ownBlock = some b ∨ b = w.heap.size := fun b hb => by
      rw [show (g.new fresh av).anch fresh = av from upd_same _ _ _, ← ablk_own hav] at hb
      rcases hblk with h1 | h1
      · exact .inl (h1 ▸ hb)
      · rw [h1] at hb; simp at hb; exact .inr hb.symm
    rcases look k1 o1 hk1 with ⟨rfl, rfl⟩ | ⟨a1, a2, a3⟩ <;> rcases look k2 o2 hk2 with ⟨rfl, rfl⟩ | ⟨b1, b2, b3⟩
    · rfl
    · exfalso
      rw [anch_old k2 o2 b1 b3] at hb2
      obtain ⟨q3, q4⟩ := others k2 o2 b2 b3 b hm2 hb2
      rcases newblk b hb1 with q | q
      · exact q4 q.symm
      · omega
    · exfalso
      rw [anch_old k1 o1 a1 a3] at hb1
      obtain ⟨q3, q4⟩ := others k1 o1 a2 a3 b hm1 hb1
      rcases newblk b hb2 with q | q
      · exact q4 q.symm
      · omega
    · rw [anch_old k1 o1 a1 a3] at hb1
      rw [anch_old k2 o2 b1 b3] at hb2
      exact R.sep k1 o1 k2 o2 b a3 b3 hm1 hm2 hb1 hb2
  · simp only [RV]
    exact ⟨.inr rfl, (upd_same _ _ _).symm, hav⟩
  · rcases hk with hk | rfl
    · exact .inl hk
    · exact .inr ⟨Nat.le_refl _, by omega⟩

theorem ownsRow_slice {w : World} {base : Nat} {te : TypeId} {size n : Nat} {v : Value} {xs : List Value} (h : w.ownsRow base te size v n xs) : ∃ A n c, v = .slice A n c := by
  rcases h.2 with ⟨rfl, _⟩ | ⟨g, cap, cur, rfl, _⟩
  · exact ⟨_, _, _, rfl⟩
  · exact ⟨_, _, _, rfl⟩

theorem run_append_view {te : TypeId} {e : Ty} {inf : TypeInfo} {z : Value} {t ty : TypeId} {bytes : Nat} (g1 : P.underlying t = some (.slice te)) (g2 : P.info? te = some inf) (g3 : inf.size = e.cells) (g4 : inf.bytes = bytes) (g5 : inf.zero = some z) (g7 : 0 < e.cells) (g8 : z.cells.size = e.cells)
    {base n : Nat} {v x : Value} {cells ncells : List Value} {ys : List e.den} {A : Option Addr} {cap : Nat} {F : Nat → Prop} (hown : w.ownsRow base te e.cells v n cells) (q : View w F e ys x A cap ncells) (hb : (n + ys.length) * bytes ≤ 140737488355328) (hm : n + ys.length ≤ maxLen) (hbase : base ≤ w.heap.size) :
    ∃ v' w', (Builtin.append_ #[t, t] ty #[v, x]).run P w = .ok v' w' ∧ w'.ownsRow base te e.cells v' (n + ys.length) (cells ++ ncells) ∧ w.grownBy w' v.ownBlock ∧ (v'.ownBlock = v.ownBlock ∨ v'.ownBlock = some w.heap.size) := by
  rw [q.val]
  cases A with
  | none =>
    have h0 := q.nil rfl
    have hy : ys = [] := List.eq_nil_of_length_eq_zero (by have := q.le; omega)
    subst hy
    have hn := q.rows
    simp only [reps] at hn
    subst hn
    subst h0
    exact ⟨v, w, run_append_owned_none w base t ty te inf e.cells g1 g2 v n cells hown, by simpa using hown, ⟨rfl, rfl, rfl, Nat.le_refl _, fun _ _ _ => rfl⟩, .inl rfl⟩
  | some ad =>
    obtain ⟨v', w', h1, h2, h3, _, h5⟩ := run_append_own_at (P := P) w base t ty te inf z e.cells bytes g1 g2 g5 g3 g4 g8 g7 v n cells hown ad ys.length cap ncells (reps_len e _ _ q.rows) (q.cell ad rfl) (reps_one e _ _ q.rows) hm hb hbase
    exact ⟨v', w', h1, h2, h3, h5⟩

theorem appendV_sound (hT : TabOk P T) (R : RelH C h w g) (hf : FreshIds g fresh) {t ty : TypeId} {s a v : V} {sx x : Value} {c : List Prop} {h' : Heap} (hs : appendV T t s a fresh h = some (c, v, h')) (hc : ∀ p ∈ c, p)
    (hsv : RV C w g s sx) (ha : RV C w g a x) : ∃ val w' g', (Builtin.append_ #[t, t] ty #[sx, x]).run P w = .ok val w' ∧ WRes C w g fresh v h' val w' g' := by
  unfold appendV at hs
  cases he : elemT T t with
  | none => simp [he] at hs
  | some p =>
    obtain ⟨te, e, bytes, zero⟩ := p
    obtain ⟨inf, z, g1, g2, g3, g4, g5, g6, g7, g8, g9⟩ := elem_of hT he
    simp only [he] at hs
    cases hvw : viewL h true e a with
    | none => simp [hvw] at hs
    | some ys =>
      simp only [hvw] at hs
      obtain ⟨A, cap, ncells, q, _⟩ := viewL_sound R hvw ha
      have hU := hf fresh (Nat.le_refl _) (by omega)
      cases s <;> simp only at hs
      all_goals try (simp at hs; done)
      case nil =>
        simp only [Option.some.injEq, Prod.mk.injEq] at hs
        obtain ⟨rfl, rfl, rfl⟩ := hs
        simp only [RV] at hsv
        subst hsv
        obtain ⟨v', w', h1, h2, h3, h5⟩ := run_append_view (P := P) (ty := ty) g1 g2 g3 g4 g5 g7 g8 (World.ownsRow_nil w w.heap.size te e.cells) q (by rw [Nat.zero_add]; exact hc _ (by simp)) (by rw [Nat.zero_add]; exact hc _ (by simp)) (Nat.le_refl _)
        rw [Nat.zero_add, List.nil_append] at h2
        have hb : Below w.heap.size w w' := ⟨h3.os, h3.tape, h3.output, h3.size, fun k hk => h3.block k hk (by simp [Value.ownBlock])⟩
        exact ⟨v', w', _, h1, (QRes.arr (fresh := fresh) R hU hb h2 q.rows g7 (ownsRow_slice h2)).wres R⟩
      case own id =>
        simp only [RV] at hsv
        obtain ⟨_, rfl, hsl⟩ := hsv
        cases ho : lookN h id with
        | none => simp [ho] at hs
        | some o =>
          cases o <;> simp only [ho] at hs
          all_goals try (simp at hs; done)
          rename_i te' e' xs'
          cases hbt : Nat.beq te te'
          · simp [hbt] at hs
          cases hcast : castL e' e xs' with
          | none => simp [hbt, hcast] at hs
          | some xs =>
            cases hsh : shareT T
            rotate_left
            · simp [hbt, hcast, hsh] at hs
            simp only [hbt, hcast, hsh, Option.some.injEq, Prod.mk.injEq] at hs
            obtain ⟨rfl, rfl, rfl⟩ := hs
            obtain rfl := Nat.eq_of_beq_eq_true hbt
            obtain ⟨rfl, hxs⟩ := castL_eq hcast
            simp at hxs
            subst hxs
            obtain ⟨cells, k1, k2, k3, k4⟩ := (R.obj id _ ho).2
            obtain ⟨v', w', h1, h2, h3, h5⟩ := run_append_view (P := P) (ty := ty) g1 g2 g3 g4 g5 g7 g8 k1 q (hc _ (by simp)) (hc _ (by simp)) (Nat.zero_le _)
            refine ⟨v', w', _, h1, R.move hU ho hsl h3 (by simpa using h2) ?_ h5 (ownsRow_slice h2)⟩
            have hFF : ∀ b, g.F b → g.F b ∧ w'.heap[b]? = w.heap[b]? := fun b hb => ⟨hb, h3.block b (R.F b hb) (fun he => (k4 b (by rw [← ablk_own hsl]; exact he.symm)).2 hb)⟩
            exact reps_append e' _ _ _ _ (reps_mono hFF e' _ _ k2) (reps_mono hFF e' _ _ q.rows)

theorem appendNil_sound (hT : TabOk P T) (R : RelH C h w g) (hf : FreshIds g fresh) {t ty : TypeId} {s a v : V} {sx x : Value} {c : List Prop} {news : Heap} (hs : appendNil T t s a fresh h = some (c, v, news)) (hc : ∀ p ∈ c, p)
    (hsv : RV C w g s sx) (ha : RV C w g a x) : ∃ val w' g', (Builtin.append_ #[t, t] ty #[sx, x]).run P w = .ok val w' ∧ QRes C w g fresh v news val w' g' := by
  unfold appendNil at hs
  cases he : elemT T t with
  | none => simp [he] at hs
  | some p =>
    obtain ⟨te, e, bytes, zero⟩ := p
    obtain ⟨inf, z, g1, g2, g3, g4, g5, g6, g7, g8, g9⟩ := elem_of hT he
    simp only [he] at hs
    cases s <;> simp only at hs
    all_goals try (simp at hs; done)
    cases hvw : viewL h true e a with
    | none => simp [hvw] at hs
    | some ys =>
      simp only [hvw, Option.some.injEq, Prod.mk.injEq] at hs
      obtain ⟨rfl, rfl, rfl⟩ := hs
      obtain ⟨A, cap, ncells, q, _⟩ := viewL_sound R hvw ha
      have hU := hf fresh (Nat.le_refl _) (by omega)
      simp only [RV] at hsv
      subst hsv
      obtain ⟨v', w', h1, h2, h3, h5⟩ := run_append_view (P := P) (ty := ty) g1 g2 g3 g4 g5 g7 g8 (World.ownsRow_nil w w.heap.size te e.cells) q (by rw [Nat.zero_add]; exact hc _ (by simp)) (by rw [Nat.zero_add]; exact hc _ (by simp)) (Nat.le_refl _)
      rw [Nat.zero_add, List.nil_append] at h2
      have hb : Below w.heap.size w w' := ⟨h3.os, h3.tape, h3.output, h3.size, fun k hk => h3.block k hk (by simp [Value.ownBlock])⟩
      exact ⟨v', w', _, h1, QRes.arr (fresh := fresh) R hU hb h2 q.rows g7 (ownsRow_slice h2)⟩
theorem run_copy_view {te : TypeId} {e : Ty} {inf : TypeInfo} {t ty : TypeId} (g1 : P.underlying t = some (.slice te)) (g2 : P.info? te = some inf) (g3 : inf.size = e.cells)
    {xs ys : List e.den} {x : Value} {ncells : List Value} {A : Option Addr} {cap : Nat} {F : Nat → Prop} {gg dcap : Nat} {cur : Array Value} (hg : w.heap[gg]? = some (.cells cur te (0, 0))) (hfit : xs.length * e.cells ≤ cur.size) (q : View w F e ys x A cap ncells) :
    (Builtin.copy_ #[t, t] ty #[.slice (some ⟨gg, 0, none⟩) xs.length dcap, x]).run P w = .ok (.int .i64 ((min ys.length xs.length : Nat) : Int))
      (w.setRow gg (ncells.take (min ys.length xs.length * e.cells) ++ cur.toList.drop (min ys.length xs.length * e.cells)).toArray) := by
  rw [q.val]
  have hnl := reps_len e _ _ q.rows
  have hlen : (ncells.take (min ys.length xs.length * e.cells)).length = min ys.length xs.length * e.cells := by
    have : min ys.length xs.length * e.cells ≤ ys.length * e.cells := Nat.mul_le_mul_right _ (Nat.min_le_left _ _)
    simp; omega
  have hst := run_storeCells_at P gg 0 te (ncells.take (min ys.length xs.length * e.cells)) 0 cur w hg (by
    rw [hlen]
    have : min ys.length xs.length * e.cells ≤ xs.length * e.cells := Nat.mul_le_mul_right _ (Nat.min_le_right _ _)
    omega) (fun v hv => reps_one e _ _ q.rows v (List.mem_of_mem_take hv))
  simp only [Nat.zero_add, List.take_zero, List.nil_append, hlen] at hst
  cases A with
  | none =>
    have h0 := q.nil rfl
    have hy : ys = [] := List.eq_nil_of_length_eq_zero (by have := q.le; omega)
    subst hy
    have hn := q.rows
    simp only [reps] at hn
    subst hn
    simp [Builtin.copy_, run_underlying g1, Builtin.lenOf, Builtin.firstCells, sizeOf, typeInfo, g2, goInt] at hst ⊢
    rw [hst]
    rfl
  | some ad =>
    have hl := run_loadCells_list (P := P) w ad (ncells.take (min ys.length xs.length * e.cells)) (fun j u hu => by
      refine q.cell ad rfl j u ?_
      have hj : j < min ys.length xs.length * e.cells := by have := (List.getElem?_eq_some_iff.1 hu).1; omega
      rwa [List.getElem?_take_of_lt hj] at hu)
    rw [hlen] at hl
    simp [Builtin.copy_, run_underlying g1, Builtin.lenOf, Builtin.firstCells, sizeOf, typeInfo, g2, g3, goInt, hl]
    rw [hst]
    rfl

theorem copyV_sound (hT : TabOk P T) (R : RelH C h w g) {t ty : TypeId} {d a v : V} {dx x : Value} {c : List Prop} {h' : Heap} (hs : copyV T t d a h = some (c, v, h'))
    (hd : RV C w g d dx) (ha : RV C w g a x) : ∃ val w' g', (Builtin.copy_ #[t, t] ty #[dx, x]).run P w = .ok val w' ∧ WRes C w g fresh v h' val w' g' := by
  unfold copyV at hs
  cases he : elemT T t with
  | none => simp [he] at hs
  | some p =>
    obtain ⟨te, e, bytes, zero⟩ := p
    obtain ⟨inf, z, g1, g2, g3, g4, g5, g6, g7, g8, g9⟩ := elem_of hT he
    simp only [he] at hs
    cases hvw : viewL h true e a with
    | none => simp [hvw] at hs
    | some ys =>
      simp only [hvw] at hs
      obtain ⟨A, cap, ncells, q, _⟩ := viewL_sound R hvw ha
      cases d <;> simp only at hs
      all_goals try (simp at hs; done)
      case own id =>
        simp only [RV] at hd
        obtain ⟨_, rfl, hsl⟩ := hd
        cases ho : lookN h id with
        | none => simp [ho] at hs
        | some o =>
          cases o <;> simp only [ho] at hs
          all_goals try (simp at hs; done)
          rename_i te' e' xs'
          cases hbt : Nat.beq te te'
          · simp [hbt] at hs
          cases hcast : castL e' e xs' with
          | none => simp [hbt, hcast] at hs
          | some xs =>
            simp only [hbt, hcast, Option.some.injEq, Prod.mk.injEq] at hs
            obtain ⟨rfl, rfl, rfl⟩ := hs
            obtain rfl := Nat.eq_of_beq_eq_true hbt
            obtain ⟨rfl, hxs⟩ := castL_eq hcast
            simp at hxs
            subst hxs
            obtain ⟨hU, cells, k1, k2, k3, k4⟩ := R.obj id _ ho
            rcases k1.2 with ⟨hnil, hn0⟩ | ⟨gg, cp, cur, hval, _, hheap, hncap, hcm, hcs, htake⟩
            · -- nothing to copy into
              have hx0 : xs' = [] := List.eq_nil_of_length_eq_zero hn0
              subst hx0
              have R' : RelH C (setObj h id (.arr te e' [])) w g := by
                have : ∀ k, lookN (setObj h id (.arr te e' [])) k = lookN h k := fun k => by
                  rw [lookN_setObj]
                  by_cases hk : k = id
                  · subst hk; rw [if_pos rfl, ho]; rfl
                  · rw [if_neg hk]
                exact ⟨R.keep, R.size, R.os, R.tape, R.output, R.F, R.Fin, R.pin, R.lam, fun k o hk => R.obj k o (by rw [← this]; exact hk), fun k o k' o' b hk hk' => R.sep k o k' o' b (by rw [← this]; exact hk) (by rw [← this]; exact hk')⟩
              refine ⟨.int .i64 ((min ys.length 0 : Nat) : Int), w, g, ?_, ?_, Evo.refl _ _, ?_, fun id h => .inl h⟩
              · rw [hnil, q.val]
                have hmin : Nat.min ys.length 0 = 0 := by simp
                cases A with
                | none => simp [Builtin.copy_, run_underlying g1, Builtin.lenOf, Builtin.firstCells, sizeOf, typeInfo, g2, goInt]
                | some ad => simp [Builtin.copy_, run_underlying g1, Builtin.lenOf, Builtin.firstCells, sizeOf, typeInfo, g2, goInt, loadCells, loadCellsFrom]
              · simpa using R'
              · simp [RV, IntKind.min, IntKind.max, IntKind.signed, IntKind.bits]
            · rw [hval]
              have hrun := run_copy_view (P := P) (ty := ty) (dcap := cp) (xs := xs') g1 g2 g3 hheap (by rw [hcs]; exact Nat.mul_le_mul_right _ hncap) q
              generalize hm : min ys.length xs'.length = m at hrun
              generalize hw' : w.setRow gg (ncells.take (m * e'.cells) ++ cur.toList.drop (m * e'.cells)).toArray = w' at hrun
              have hml : m ≤ ys.length ∧ m ≤ xs'.length := by omega
              have hnl := reps_len e' _ _ q.rows
              have hmy : m * e'.cells ≤ ys.length * e'.cells := Nat.mul_le_mul_right _ hml.1
              have hmx : m * e'.cells ≤ xs'.length * e'.cells := Nat.mul_le_mul_right _ hml.2
              have hxc : xs'.length * e'.cells ≤ cp * e'.cells := Nat.mul_le_mul_right _ hncap
              have hys : ys.take xs'.length = ys.take m := by
                rw [← hm]
                by_cases hle : ys.length ≤ xs'.length
                · rw [Nat.min_eq_left hle, List.take_of_length_le hle, List.take_length]
                · rw [Nat.min_eq_right (by omega)]
              have hxd : xs'.drop ys.length = xs'.drop m := by
                rw [← hm]
                by_cases hle : ys.length ≤ xs'.length
                · rw [Nat.min_eq_left hle]
                · rw [Nat.min_eq_right (by omega), List.drop_eq_nil_of_le (by omega), List.drop_eq_nil_of_le (by omega)]
              obtain ⟨R', e2⟩ := R.write (w' := w') (o' := .arr te e' (ys.take xs'.length ++ xs'.drop ys.length)) ho rfl rfl (blk := gg) (by rw [hval]; rfl) (fun b hb => by rw [← hw']; exact setRow_other w gg b _ hb) (by rw [← hw']; simp [World.setRow])
                (by rw [← hw']; rfl) (by rw [← hw']; rfl) (by rw [← hw']; rfl) (fun ev => by
                  have hcells : cells.length = xs'.length * e'.cells := k1.1
                  have hlenx : (ys.take xs'.length ++ xs'.drop ys.length).length = xs'.length := by rw [hys, hxd]; simp; omega
                  refine ⟨ncells.take (m * e'.cells) ++ cells.drop (m * e'.cells), ⟨by rw [hlenx]; simp; omega, .inr ⟨gg, cp, (ncells.take (m * e'.cells) ++ cur.toList.drop (m * e'.cells)).toArray, ?_, Nat.zero_le _, ?_, by rw [hlenx]; exact hncap, hcm, ?_, ?_⟩⟩, ?_, k3, k4⟩
                  · rw [hval, hlenx]
                  · rw [← hw']; exact setRow_heap w gg _ _ te _ hheap
                  · simp; omega
                  · rw [hlenx, ← htake]
                    simp only
                    rw [List.take_append, List.take_of_length_le (by simp; omega), List.drop_take]
                    congr 2
                    simp; omega
                  · rw [hys, hxd]
                    exact reps_append e' _ _ _ _ (reps_take e' _ _ (reps_mono ev.F e' _ _ q.rows) m) (reps_drop e' _ _ (reps_mono ev.F e' _ _ k2) m))
              refine ⟨_, w', g, hrun, R', e2, ?_, fun id h => .inl h⟩
              simp only [RV]
              refine ⟨trivial, wrap_len ?_⟩
              have := q.le; have := q.max; omega

theorem run_copy_str {te : TypeId} {inf : TypeInfo} {t t' ty : TypeId} (g1 : P.underlying t = some (.slice te)) (g2 : P.info? te = some inf) (g3 : inf.size = 1)
    {l : List UInt8} {gg n dcap : Nat} {cur : Array Value} (hg : w.heap[gg]? = some (.cells cur te (0, 0))) (hfit : n ≤ cur.size) :
    (Builtin.copy_ #[t, t'] ty #[.slice (some ⟨gg, 0, none⟩) n dcap, .string ⟨⟨l⟩⟩]).run P w = .ok (.int .i64 ((min l.length n : Nat) : Int))
      (w.setRow gg ((((bytesOfStr l).map (Value.int .u8)).take (min l.length n)) ++ cur.toList.drop (min l.length n)).toArray) := by
  have hbl : (bytesOfStr l).length = l.length := by simp [bytesOfStr]
  have hlen : (((bytesOfStr l).map (Value.int .u8)).take (min l.length n)).length = min l.length n := by rw [List.length_take, List.length_map, hbl]; omega
  have hst := run_storeCells_at P gg 0 te (((bytesOfStr l).map (Value.int .u8)).take (min l.length n)) 0 cur w hg (by rw [hlen]; omega) (fun v hv => by
    obtain ⟨b, -, rfl⟩ := List.mem_map.1 (List.mem_of_mem_take hv); trivial)
  simp only [Nat.zero_add, List.take_zero, List.nil_append, hlen] at hst
  have hm : ((l.take (min l.length n)).map fun b => Value.int .u8 (b.toNat : Int)) = ((bytesOfStr l).map (Value.int .u8)).take (min l.length n) := by
    rw [bytesOfStr, List.map_map, List.map_take]; rfl
  have hsz : (⟨⟨l⟩⟩ : ByteArray).size = l.length := rfl
  simp [Builtin.copy_, run_underlying g1, Builtin.lenOf, Builtin.firstCells, sizeOf, typeInfo, g2, g3, goInt, extract_list, hsz]
  rw [show Nat.min l.length n = min l.length n from rfl]
  have hm' := hm
  simp only [List.map_take] at hm'
  first
  | (rw [hm']; rw [hst]; rfl)
  | (rw [hm]; rw [hst]; rfl)
  | (simp only [List.map_take] at *; rw [hm', hst]; rfl)

theorem copyS_sound (hT : TabOk P T) (R : RelH C h w g) {t t' ty : TypeId} {d a v : V} {dx x : Value} {c : List Prop} {h' : Heap} (hs : copyS T t d a h = some (c, v, h'))
    (hd : RV C w g d dx) (ha : RV C w g a x) : ∃ val w' g', (Builtin.copy_ #[t, t'] ty #[dx, x]).run P w = .ok val w' ∧ WRes C w g fresh v h' val w' g' := by
  unfold copyS at hs
  split at hs
  · rename_i te bytes zero l id he
    obtain ⟨inf, z, g1, g2, g3, g4, g5, g6, g7, g8, g9⟩ := elem_of hT he
    simp only [RV] at ha
    obtain ⟨rfl, hlm⟩ := ha
    split at hs
    · rename_i te' e' xs' ho
      split at hs
      · rename_i xs hbt hcast
        simp only [Option.some.injEq, Prod.mk.injEq] at hs
        obtain ⟨rfl, rfl, rfl⟩ := hs
        obtain rfl := Nat.eq_of_beq_eq_true hbt
        obtain ⟨rfl, hxs⟩ := castL_eq hcast
        simp at hxs
        subst hxs
        simp only [RV] at hd
        obtain ⟨_, rfl, hsl⟩ := hd
        have hbl : (bytesOfStr l).length = l.length := by simp [bytesOfStr]
        have hrows : reps w g.F (.int .u8) (bytesOfStr l) ((bytesOfStr l).map (Value.int .u8)) := rows_bytes _ fun y hy => by
          simp only [bytesOfStr, List.mem_map] at hy
          obtain ⟨b, _, rfl⟩ := hy
          have := b.toNat_lt
          generalize b.toNat = q at *
          omega
        obtain ⟨hU, cells, k1, k2, k3, k4⟩ := R.obj id _ ho
        rcases k1.2 with ⟨hnil, hn0⟩ | ⟨gg, cp, cur, hval, _, hheap, hncap, hcm, hcs, htake⟩
        · have hx0 : xs' = [] := List.eq_nil_of_length_eq_zero hn0
          subst hx0
          have R' : RelH C (setObj h id (.arr te (.int .u8) [])) w g := by
            have : ∀ k, lookN (setObj h id (.arr te (.int .u8) [])) k = lookN h k := fun k => by
              rw [lookN_setObj]
              by_cases hk : k = id
              · subst hk; rw [if_pos rfl, ho]; rfl
              · rw [if_neg hk]
            exact ⟨R.keep, R.size, R.os, R.tape, R.output, R.F, R.Fin, R.pin, R.lam, fun k o hk => R.obj k o (by rw [← this]; exact hk), fun k o k' o' b hk hk' => R.sep k o k' o' b (by rw [← this]; exact hk) (by rw [← this]; exact hk')⟩
          refine ⟨.int .i64 ((min l.length 0 : Nat) : Int), w, g, ?_, ?_, Evo.refl _ _, ?_, fun id h => .inl h⟩
          · rw [hnil]
            simp [Builtin.copy_, run_underlying g1, Builtin.lenOf, Builtin.firstCells, sizeOf, typeInfo, g2, goInt]
          · simpa using R'
          · simp [RV, IntKind.min, IntKind.max, IntKind.signed, IntKind.bits]
        · rw [hval]
          simp only [show (Ty.int .u8).cells = 1 from rfl, Nat.mul_one] at *
          have hone : (Ty.int .u8).cells = 1 := rfl
          have hrun := run_copy_str (P := P) (t' := t') (ty := ty) (dcap := cp) (l := l) (n := xs'.length) g1 g2 g3 hheap (by omega)
          generalize hm : min l.length xs'.length = m at hrun
          generalize hw' : w.setRow gg ((((bytesOfStr l).map (Value.int .u8)).take m) ++ cur.toList.drop m).toArray = w' at hrun
          have hml : m ≤ l.length ∧ m ≤ xs'.length := by omega
          have hys : (bytesOfStr l).take xs'.length = (bytesOfStr l).take m := by
            rw [← hm]
            by_cases hle : l.length ≤ xs'.length
            · rw [Nat.min_eq_left hle, List.take_of_length_le (by omega), List.take_of_length_le (by omega)]
            · rw [Nat.min_eq_right (by omega)]
          have hxd : List.drop l.length xs' = List.drop m xs' := by
            rw [← hm]
            by_cases hle : l.length ≤ xs'.length
            · rw [Nat.min_eq_left hle]
            · rw [Nat.min_eq_right (by omega), List.drop_eq_nil_of_le (by omega), List.drop_eq_nil_of_le (by omega)]
          obtain ⟨R', e2⟩ := R.write (w' := w') (o' := .arr te (.int .u8) (List.take xs'.length (bytesOfStr l) ++ List.drop l.length xs')) ho rfl rfl (blk := gg) (by rw [hval]; rfl) (fun b hb => by rw [← hw']; exact setRow_other w gg b _ hb) (by rw [← hw']; simp [World.setRow])
            (by rw [← hw']; rfl) (by rw [← hw']; rfl) (by rw [← hw']; rfl) (fun ev => by
              have hcells : cells.length = xs'.length := k1.1.trans (Nat.mul_one _)
              have hlenx : (List.take xs'.length (bytesOfStr l) ++ List.drop l.length xs').length = xs'.length := by rw [hys, hxd, List.length_append, List.length_take, List.length_drop, hbl]; omega
              refine ⟨((bytesOfStr l).map (Value.int .u8)).take m ++ cells.drop m, ⟨by rw [hlenx, hone, List.length_append, List.length_take, List.length_drop, List.length_map, hbl]; omega, .inr ⟨gg, cp, (((bytesOfStr l).map (Value.int .u8)).take m ++ cur.toList.drop m).toArray, ?_, Nat.zero_le _, ?_, by rw [hlenx]; exact hncap, hcm, ?_, ?_⟩⟩, ?_, k3, k4⟩
              · rw [hval, hlenx]
              · rw [← hw']; exact setRow_heap w gg _ _ te _ hheap
              · simp [hbl, hone]; omega
              · rw [hlenx, ← htake]
                try rw [hone, Nat.mul_one]
                simp only
                rw [List.take_append, List.take_of_length_le (by simp [hbl]; omega), List.drop_take]
                congr 2
                simp [hbl]; omega
              · rw [hys, hxd]
                have q1 := reps_take (.int .u8) _ _ (reps_mono ev.F (.int .u8) _ _ hrows) m
                have q2 := reps_drop (.int .u8) _ _ (reps_mono ev.F (.int .u8) _ _ k2) m
                rw [hone, Nat.mul_one] at q1 q2
                exact reps_append (.int .u8) _ _ _ _ q1 q2)
          refine ⟨_, w', g, hrun, R', e2, ?_, fun id h => .inl h⟩
          simp only [RV]
          exact ⟨trivial, wrap_len (by omega)⟩
      · simp at hs
    · simp at hs
  · simp at hs

theorem sliceOwnV_sound (hT : TabOk P T) (R : RelH C h w g) (hf : FreshIds g fresh) {t : TypeId} {a v : V} {x : Value} {lo hi mx : Option V} {lx hx mxx : Option Value} {c : List Prop} {h' : Heap}
    (hs : sliceOwnV T t a lo hi mx fresh h = some (c, v, h')) (hc : ∀ p ∈ c, p) (ha : RV C w g a x) (hlo : OptRel C w g lo lx) (hhi : OptRel C w g hi hx) (hmx : OptRel C w g mx mxx) :
    ∃ val w' g', (Instr.sliceAt t x lx hx mxx).run P w = .ok val w' ∧ WRes C w g fresh v h' val w' g' := by
  unfold sliceOwnV at hs
  split at hs
  · rename_i id te e bytes zero he
    rcases hmx with ⟨_, rfl⟩ | ⟨_, _, h0, _⟩
    case inr => simp at h0
    obtain ⟨inf, z, g1, g2, g3, g4, g5, g6, g7, g8, g9⟩ := elem_of hT he
    simp only [RV] at ha
    obtain ⟨_, rfl, hsl⟩ := ha
    cases ho : lookN h id with
    | none => simp [ho] at hs
    | some o =>
      cases o <;> simp only [ho] at hs
      all_goals try (simp at hs; done)
      rename_i te' e' xs'
      cases hcast : castL e' e xs' with
      | none => simp [hcast] at hs
      | some xs =>
        simp only [hcast] at hs
        obtain ⟨rfl, hxs⟩ := castL_eq hcast
        simp at hxs
        subst hxs
        obtain ⟨cells, k1, k2, k3, k4⟩ := (R.obj id _ ho).2
        obtain ⟨A, cap, vcells, q⟩ := view_of_arr (R.obj id _ ho).2
        have hU := hf fresh (Nat.le_refl _) (by omega)
        cases lo with
        | none =>
          simp only at hs
          rcases hlo with ⟨_, rfl⟩ | ⟨_, _, h0, _⟩
          case inr => simp at h0
          cases hB : optInt hi xs'.length with
          | none => simp [hB] at hs
          | some b0 =>
            simp only [hB, Option.some.injEq, Prod.mk.injEq] at hs
            obtain ⟨rfl, rfl, rfl⟩ := hs
            have c1 : 0 ≤ b0 := hc _ (by simp)
            have c2 : b0 ≤ xs'.length := hc _ (by simp)
            obtain ⟨b, rfl⟩ := Int.eq_ofNat_of_zero_le c1
            have hbn : b ≤ xs'.length := by omega
            have hhb : hx = none ∧ b = xs'.length ∨ ∃ k, hx = some (.int k (b : Int)) := by
              rcases optInt_rel hB hhi with ⟨q1, q2⟩ | q
              · exact .inl ⟨q1, by omega⟩
              · exact .inr q
            have hsb := run_sliceBounds (P := P) (w := w) true xs'.length cap none hx (a := 0) (b := b) (.inl ⟨rfl, rfl⟩) hhb (Nat.zero_le _) (by have := q.le; omega)
            have hif : (if cap = 0 then A else A.map (·.add (0 * e'.cells))) = A := by
              by_cases h0 : cap = 0
              · rw [if_pos h0]
              · rw [if_neg h0]; cases A <;> simp [Addr.add]
            have hrun : (Instr.sliceAt t (g.anch id) none hx none).run P w = .ok (.slice A b cap) w := by
              rw [q.val]
              simp [Instr.sliceAt, Instr.slice, run_underlying g1, hsb, sizeOf, typeInfo, g2, g3]
              simpa using hif
            have hbl : (.slice A b cap : Value).ownBlock = (g.anch id).ownBlock := by rw [q.val]; cases A <;> rfl
            simp only [Int.toNat_natCast]
            refine ⟨_, w, _, hrun, R.move hU ho hsl ⟨rfl, rfl, rfl, Nat.le_refl _, fun _ _ _ => rfl⟩ (cells := cells.take (b * e'.cells)) ?_ (reps_take e' _ _ k2 b) (.inl hbl) ⟨_, _, _, rfl⟩⟩
            have hlt : (xs'.take b).length = b := by simp; omega
            have hmul : b * e'.cells ≤ xs'.length * e'.cells := Nat.mul_le_mul_right _ hbn
            rw [hlt]
            refine ⟨by have := k1.1; simp; omega, ?_⟩
            rcases k1.2 with ⟨hnil, hn0⟩ | ⟨gg, cp, cur, hval, _, hheap, hncap, hcm, hcs, htake⟩
            · rw [q.val] at hnil
              simp at hnil
              exact .inl ⟨by rw [hnil.1, hnil.2.2]; congr 1; omega, by omega⟩
            · rw [q.val] at hval
              simp at hval
              obtain ⟨rfl, rfl⟩ := hval
              refine .inr ⟨gg, cap, cur, rfl, Nat.zero_le _, hheap, by omega, hcm, hcs, ?_⟩
              rw [← htake, List.take_take, Nat.min_eq_left hmul]
        | some lo' =>
          simp only at hs
          cases hA : optInt (some lo') 0 with
          | none => simp [hA] at hs
          | some a0 =>
            cases hB : optInt hi xs'.length with
            | none => simp [hA, hB] at hs
            | some b0 =>
              simp only [hA, hB, Option.some.injEq, Prod.mk.injEq] at hs
              obtain ⟨rfl, rfl, rfl⟩ := hs
              have c1 : 0 ≤ a0 := hc _ (by simp)
              have c2 : a0 ≤ b0 := hc _ (by simp)
              have c3 : b0 ≤ xs'.length := hc _ (by simp)
              obtain ⟨a1, rfl⟩ := Int.eq_ofNat_of_zero_le c1
              obtain ⟨b1, rfl⟩ := Int.eq_ofNat_of_zero_le (Int.le_trans c1 c2)
              have n1 : lx = none ∧ a1 = 0 ∨ ∃ k, lx = some (.int k (a1 : Int)) := by
                rcases optInt_rel hA hlo with ⟨q1, q2⟩ | q
                · exact .inl ⟨q1, by omega⟩
                · exact .inr q
              have n2 : hx = none ∧ b1 = xs'.length ∨ ∃ k, hx = some (.int k (b1 : Int)) := by
                rcases optInt_rel hB hhi with ⟨q1, q2⟩ | q
                · exact .inl ⟨q1, by omega⟩
                · exact .inr q
              have n3 : a1 ≤ b1 := by omega
              have n4 : b1 ≤ xs'.length := by omega
              obtain ⟨R1, e1⟩ := R.freeze ho
              have hcut := view_cut q n3 n4
              have hsb := run_sliceBounds (P := P) (w := w) true xs'.length cap lx hx n1 n2 n3 (by have := q.le; omega)
              have hle := q.le
              have hrun : (Instr.sliceAt t (g.anch id) lx hx none).run P w = .ok (.slice (if cap = a1 then A else A.map (·.add (a1 * e'.cells))) (b1 - a1) (cap - a1)) w := by
                rw [q.val]
                simp [Instr.sliceAt, Instr.slice, run_underlying g1, hsb, sizeOf, typeInfo, g2, g3]
              simp only [Int.toNat_natCast]
              refine ⟨_, w, ⟨g.anch, fun b => g.F b ∨ ablk (g.anch id) = some b, g.U⟩, hrun, R1, e1, ?_, fun id h => .inl h⟩
              simp only [RV]
              obtain ⟨hv1, hv2, hv3, hv4, hv5, hv6, hv7⟩ := hcut
              have hlenc : ((xs'.take b1).drop a1).length = b1 - a1 := by simp; omega
              rw [← hlenc] 
              by_cases hne : (xs'.take b1).drop a1 = []
              · simp only [rep]
                refine ⟨_, _, rfl, by rw [hne]; simp, hv4, hv5, fun i hi => by rw [hne] at hi; simp at hi⟩
              · have hca : cap ≠ a1 := by
                  intro hca
                  apply hne
                  apply List.eq_nil_of_length_eq_zero
                  rw [hlenc]; omega
                rw [if_neg hca] at hv6 ⊢
                cases A with
                | none => have := q.nil rfl; omega
                | some ad =>
                  simp only [Option.map_some] at hv6 ⊢
                  refine rep_of_rows (reps_mono (fun b hb => ⟨.inl hb, rfl⟩) e' _ _ hv2) (.inr ?_) hv3 hv4 (hv6 _ rfl)
                  rw [q.val, add_block]; rfl
  · simp at hs

theorem buildSliceW_sound (hT : TabOk P T) (R : RelH C h w g) (hf : FreshIds g fresh) {t : TypeId} {len : Nat} {parts : List (Nat × V)} {ys : List (Nat × Value)} {c : List Prop} {v : V} {h' : Heap}
    (hs : buildSliceV T true t len parts fresh h = some (c, v, h')) (hp : PartsRel C w g parts ys) :
    ∃ val w' g', (Instr.buildSlice t len ys.toArray).run P w = .ok val w' ∧ WRes C w g fresh v h' val w' g' := by
  unfold buildSliceV at hs
  cases he : elemT T t with
  | none => simp [he] at hs
  | some p =>
    obtain ⟨te, e, bytes, zero⟩ := p
    obtain ⟨inf, z, g1, g2, g3, g4, g5, g6, g7, g8, g9⟩ := elem_of hT he
    simp only [he] at hs
    split at hs
    · rename_i cs hcs hb
      simp only [Bool.and_eq_true] at hb
      have hle := Nat.le_of_ble_eq_true hb.1
      split at hs
      · rename_i xs hxs
        simp only [Option.some.injEq, Prod.mk.injEq] at hs
        obtain ⟨rfl, rfl, rfl⟩ := hs
        have hone := hb.2
        rw [← g6] at hcs hone
        have hz := zero_cells (C := C) (w := w) (g := g) z.cells.toList hone
        obtain ⟨us, h2, h3, h4, h5⟩ := fillV_sound parts ys _ cs (repL z.cells.toList len).toArray hcs hp (by simpa using RVs_repL hz len) (by simpa using one_repL (RVs_one hone hz) len)
        have hfun : (fun i => some (i * inf.size, inf.size) : Nat → Option (Nat × Nat)) = fun j => some (j * e.cells, e.cells) := by rw [g3]
        have hrun := run_buildSlice (P := P) (w := w) g1 g2 g5 (g8.trans g3.symm) (by omega) (by rw [g3]; exact hle) (by rw [hfun]; exact h2)
        obtain ⟨F', R1, e1, _⟩ := freezeAll_sound (w := w) cs h g R
        obtain ⟨h6, h7⟩ := toRows_sound R1 e len cs xs us.toList hxs (RVs_mono e1 _ _ h3)
        have hbel : Below w.heap.size w (w.alloc (.cells us te)) := (Below.refl _ _).alloc (Nat.le_refl _) _
        have hsz : us.size = len * e.cells := by rw [h5]; simp [repL_len, g8]
        have hlen : len ≤ 16777216 := by
          have : len * 1 ≤ len * e.cells := Nat.mul_le_mul_left _ g7
          omega
        have hown := ownsRow_new (w := w) (w1 := w.alloc (.cells us te)) (te := te) us len len (Nat.le_refl _) (by simp only [maxLen]; omega) hsz (heap_alloc_new w _)
        rw [List.take_of_length_le (by simp; omega)] at hown
        have hq := QRes.arr (fresh := fresh) R1 (hf fresh (Nat.le_refl _) (by omega)) hbel (by rw [h7]; exact hown) h6 g7 ⟨_, _, _, rfl⟩
        have hw := hq.wres R1
        exact ⟨_, _, _, hrun, hw.rel, e1.trans hw.evo, hw.val, hw.U⟩
      · simp at hs
    · simp at hs
end
end Go.Eng

set_option linter.unusedVariables false
set_option linter.unusedSimpArgs false
namespace Go.Eng
open Go.RowKit (Below)
section
variable {C : Cx} {w w' : World} {g g' : Gh} {h : Heap} {P : Program} {T : Tab} {fresh : Nat}
theorem conj_out' : ∀ {cs : List Prop} {K : Prop}, conj cs K → (∀ p ∈ cs, p) ∧ K
  | [], K, h => ⟨by simp, h⟩
  | c :: cs, K, h => by
    rw [conj_cons] at h
    obtain ⟨h1, h2⟩ := h
    obtain ⟨h3, h4⟩ := conj_out' h2.out
    exact ⟨fun p hp => by
      rcases List.mem_cons.1 hp with rfl | hp
      · exact h1.out
      · exact h3 p hp, h4⟩
theorem rawRow {id : Nat} {te : TypeId} {e : Ty} {xs : List (Option e.den)} (ho : RO C w g id (.raw te e xs)) {ad : Addr} {n c : Nat} (ha : g.anch id = .slice (some ad) n c) :
    ∃ blk cur, ad = ⟨blk, 0, none⟩ ∧ c = xs.length ∧ w.heap[blk]? = some (.cells cur te (0, 0)) ∧ xs.length ≤ maxLen ∧ cur.size = xs.length * e.cells ∧ rawRep w g.F e xs cur.toList ∧ MutOk C g blk := by
  obtain ⟨_, ⟨h1, _⟩ | ⟨blk, m, cur, h1, h2, h3, h4, h5, h6, h7⟩⟩ := ho
  · rw [ha] at h1; simp at h1
  · rw [ha] at h1; simp at h1
    obtain ⟨rfl, rfl, rfl⟩ := h1
    exact ⟨blk, cur, rfl, rfl, h2, h4, h5, h6, h7⟩
theorem rawRep_at {e : Ty} {xs : List (Option e.den)} {cs : List Value} {F : Nat → Prop} (hr : rawRep w F e xs cs) {row : Nat} (hs : (xs.getD row none).isSome = true) :
    rep w F e ((xs.getD row none).getD e.dflt) ((cs.drop (row * e.cells)).take e.cells) ∧ row < xs.length := by
  obtain ⟨x, hx⟩ := Option.isSome_iff_exists.1 hs
  rw [List.getD_eq_getElem?_getD] at hx
  cases hq : xs[row]? with
  | none => rw [hq] at hx; simp at hx
  | some y =>
    rw [hq] at hx
    simp only [Option.getD_some] at hx
    subst hx
    refine ⟨?_, (List.getElem?_eq_some_iff.1 hq).1⟩
    rw [List.getD_eq_getElem?_getD, hq]
    simpa using hr row x hq
theorem loadR_sound (hT : TabOk P T) (R : RelH C h w g) {t : TypeId} {a v : V} {x : Value} {c : List Prop} {news : Heap}
    (hs : loadR T t a h = some (c, v, news)) (hc : ∀ p ∈ c, p) (ha : RV C w g a x) :
    news = [] ∧ ∃ val, (Instr.loadAt t x).run P w = .ok val w ∧ RV C w g v val := by
  unfold loadR at hs
  cases hi : T.ti t with
  | none => simp [hi] at hs
  | some i =>
    simp only [hi] at hs
    cases a <;> simp only at hs
    all_goals try (simp at hs; done)
    case ep id e row col =>
      simp only [RV] at ha
      obtain ⟨hU, ad, n, cp, h1, rfl⟩ := ha
      cases ho : lookN h id with
      | none => simp [ho] at hs
      | some o =>
        cases o <;> simp only [ho] at hs
        all_goals try (simp at hs; done)
        rename_i te e' xs'
        cases hcast : castO e' e xs' with
        | none => simp [hcast] at hs
        | some xs =>
          simp only [hcast] at hs
          obtain ⟨rfl, hxs⟩ := castO_eq hcast
          simp at hxs
          subst hxs
          cases hb : Nat.ble (col + i.size) e'.cells
          · simp [hb] at hs
          · simp only [hb] at hs
            have hle := Nat.le_of_ble_eq_true hb
            obtain ⟨hm, rfl, rfl⟩ := mkR_some hs
            have hsome : (xs'.getD row none).isSome = true := hc _ (by simp)
            refine ⟨rfl, ?_⟩
            obtain ⟨blk, cur, rfl, rfl, q1, q2, q3, q4, q5⟩ := rawRow (R.obj id _ ho).2 h1
            obtain ⟨hrep, hrow⟩ := rawRep_at q4 hsome
            have hvs := RVs_take i.size (RVs_drop col (RVs_ofDen (C := C) e' _ _ hrep))
            obtain ⟨val, hr, hv⟩ := run_loadVar_cells hT hi (a0 := (⟨blk, 0, none⟩ : Addr).add (row * e'.cells + col)) hvs (fun j y hy => by
              have hj : j < i.size := by
                have hlt := (List.getElem?_eq_some_iff.1 hy).1
                simp at hlt; omega
              rw [List.getElem?_take_of_lt hj, List.getElem?_drop, List.getElem?_take_of_lt (by omega), List.getElem?_drop] at hy
              rw [add_add, addr_add, cell_of_row w blk _ _ _ _ q1]
              rw [← hy]
              simp only [Array.getElem?_toList]
              congr 1
              omega) (by simp [ofDen_len]; omega) hm
            exact ⟨val, by simp [Instr.loadAt, Instr.sureAddr, hr], hv⟩

theorem indexR_sound (hT : TabOk P T) {t : TypeId} {a ix v : V} {x y : Value} {c : List Prop} {news : Heap}
    (hs : indexR T t a ix = some (c, v, news)) (hc : ∀ p ∈ c, p) (ha : RV C w g a x) (hi : RV C w g ix y) :
    news = [] ∧ ∃ val, (Instr.indexAt t x y).run P w = .ok val w ∧ RV C w g v val := by
  unfold indexR at hs
  split at hs
  · rename_i id e lo n fl k i
    cases he : elemT T t with
    | none => simp [he] at hs
    | some p =>
      obtain ⟨te, e', bytes, zero⟩ := p
      obtain ⟨inf, z, g1, g2, g3, _⟩ := elem_of hT he
      simp only [he] at hs
      split at hs
      · rename_i heq _
        subst heq
        simp only [Option.some.injEq, Prod.mk.injEq] at hs
        obtain ⟨rfl, rfl, rfl⟩ := hs
        have h0 : 0 ≤ i := hc _ (by simp)
        have h1 : i < n := hc _ (by simp)
        obtain ⟨m, rfl⟩ := Int.eq_ofNat_of_zero_le h0
        simp only [RV] at ha hi
        obtain ⟨hU, A, m', c', A', c2, e1, e6, e7, rfl, e2, e3, e4, e5⟩ := ha
        obtain ⟨rfl, _, _⟩ := hi
        have hA : A' = A.map (·.add (lo * e'.cells)) := by
          rcases e5 with e5 | e5
          · omega
          · exact e5
        cases A with
        | none => have := e6 rfl; omega
        | some ad =>
          simp only [Option.map_some] at hA
          subst hA
          refine ⟨rfl, _, run_indexAt_slice g1 g2 g3 (by omega), ?_⟩
          simp only [RV]
          refine ⟨hU, ad, m', c', e1, ?_⟩
          rw [add_add, Int.toNat_natCast, Nat.add_zero, Nat.add_mul]
      · simp at hs
  · simp at hs

theorem run_sliceBounds3 (isS : Bool) (len cap : Nat) (lo : Option Value) {a b m : Nat} {k2 k3 : IntKind} (hlo : lo = none ∧ a = 0 ∨ ∃ k, lo = some (.int k (a : Int)))
    (h1 : a ≤ b) (h2 : b ≤ m) (h3 : m ≤ cap) : (Instr.sliceBounds isS len cap lo (some (.int k2 (b : Int))) (some (.int k3 (m : Int)))).run P w = .ok (a, b, m) w := by
  have e0 : ∀ (k : IntKind) (code : BoundsCode), (Instr.sliceBound (.int k (m : Int)) cap code).run P w = .ok m w := fun k code => by
    simp [Instr.sliceBound, asIntOf, h3]
  have e1 : ∀ (k : IntKind) (code : BoundsCode), (Instr.sliceBound (.int k (b : Int)) m code).run P w = .ok b w := fun k code => by
    simp [Instr.sliceBound, asIntOf, h2]
  have e2 : ∀ (k : IntKind) (code : BoundsCode), (Instr.sliceBound (.int k (a : Int)) b code).run P w = .ok a w := fun k code => by
    simp [Instr.sliceBound, asIntOf, h1]
  rcases hlo with ⟨rfl, rfl⟩ | ⟨k1, rfl⟩ <;> simp [Instr.sliceBounds, e0, e1, e2]
theorem cut_addr {A : Option Addr} {c' a q : Nat} {A' : Option Addr} {k : Nat} (h : (c' = 0 ∧ q ≠ 0) ∨ A' = A.map (·.add (q * k))) (m : Nat) (ha : a ≤ m) (hm : m ≤ c') :
    (m - a = 0 ∧ q + a ≠ 0) ∨ (if m = a then A' else A'.map (·.add (a * k))) = A.map (·.add ((q + a) * k)) := by
  by_cases he : m = a
  · rw [if_pos he]
    by_cases h0 : a = 0
    · subst h0
      rcases h with h | h
      · left; omega
      · right; simpa using h
    · left; omega
  · right
    rw [if_neg he]
    rcases h with h | h
    · omega
    · subst h
      cases A with
      | none => rfl
      | some ad => simp only [Option.map_some, add_add, Nat.add_mul]
theorem raw_cap {id : Nat} {te : TypeId} {e : Ty} {xs : List (Option e.den)} (ho : RO C w g id (.raw te e xs)) {A : Option Addr} {n c : Nat} (ha : g.anch id = .slice A n c) : c = xs.length ∧ n ≤ xs.length := by
  obtain ⟨_, ⟨h1, h2⟩ | ⟨blk, m, cur, h1, h2, h3, h4, h5, h6, h7⟩⟩ := ho
  · rw [ha] at h1; simp at h1; subst h2; simp [h1]
  · rw [ha] at h1; simp at h1; obtain ⟨_, rfl, rfl⟩ := h1; exact ⟨rfl, h3⟩
theorem sliceR_sound (hT : TabOk P T) (R : RelH C h w g) {t : TypeId} {a v : V} {x : Value} {lo hi mx : Option V} {lx hx mxx : Option Value} {c : List Prop} {news : Heap}
    (hs : sliceR T t a lo hi mx h = some (c, v, news)) (hc : ∀ p ∈ c, p) (ha : RV C w g a x) (hlo : OptRel C w g lo lx) (hhi : OptRel C w g hi hx) (hmx : OptRel C w g mx mxx) :
    news = [] ∧ ∃ val, (Instr.sliceAt t x lx hx mxx).run P w = .ok val w ∧ RV C w g v val := by
  unfold sliceR at hs
  cases he : elemT T t with
  | none => simp [he] at hs
  | some p =>
    obtain ⟨te, e', bytes, zero⟩ := p
    obtain ⟨inf, z, g1, g2, g3, _⟩ := elem_of hT he
    simp only [he] at hs
    have toA : ∀ {A : Int}, optInt lo 0 = some A → 0 ≤ A → ∃ a : Nat, A = a ∧ (lx = none ∧ a = 0 ∨ ∃ k, lx = some (.int k (a : Int))) := by
      intro A h1 h3
      obtain ⟨a, rfl⟩ := Int.eq_ofNat_of_zero_le h3
      refine ⟨a, rfl, ?_⟩
      rcases optInt_rel h1 hlo with ⟨q1, q2⟩ | q
      · exact .inl ⟨q1, by omega⟩
      · exact .inr q
    have toB : ∀ {n : Nat} {B : Int}, optInt hi n = some B → 0 ≤ B → ∃ b : Nat, B = b ∧ (hx = none ∧ b = n ∨ ∃ k, hx = some (.int k (b : Int))) := by
      intro n B h2 h3
      obtain ⟨b, rfl⟩ := Int.eq_ofNat_of_zero_le h3
      refine ⟨b, rfl, ?_⟩
      rcases optInt_rel h2 hhi with ⟨q1, q2⟩ | q
      · exact .inl ⟨q1, by omega⟩
      · exact .inr q
    have isv : ∀ {o : Option V} {x : Option Value} {k : IntKind} {m : Int}, OptRel C w g o x → o = some (.i k m) → x = some (.int k m) := by
      intro o x k m hr ho
      rcases hr with ⟨h1, _⟩ | ⟨v, y, h1, h2, h3⟩
      · rw [h1] at ho; simp at ho
      · rw [h1] at ho
        simp only [Option.some.injEq] at ho
        subst ho
        simp only [RV] at h3
        rw [h2, h3.1]
    have toI : ∀ {v : V} {d : Int} {B : Int}, optInt (some v) d = some B → ∃ k, v = .i k B := by
      intro v d B hb
      cases v <;> simp only [optInt] at hb
      all_goals try (simp at hb; done)
      simp only [Option.some.injEq] at hb
      subst hb
      exact ⟨_, rfl⟩
    cases a <;> (try simp only at hs)
    all_goals try (simp at hs; done)
    case nil =>
      simp only [RV] at ha
      subst ha
      split at hs
      · rename_i a b h1 h2
        simp only [Option.some.injEq, Prod.mk.injEq] at hs
        obtain ⟨rfl, rfl, rfl⟩ := hs
        have c1 : a = 0 := hc _ (by simp)
        have c2 : b = 0 := hc _ (by simp)
        subst c1; subst c2
        obtain ⟨a1, q1, n1⟩ := toA h1 (by omega)
        obtain ⟨b1, q2, n2⟩ := toB (n := 0) h2 (by omega)
        obtain rfl : a1 = 0 := by omega
        obtain rfl : b1 = 0 := by omega
        rcases hmx with ⟨_, rfl⟩ | ⟨_, _, h0, _⟩
        · have hb := run_sliceBounds (P := P) (w := w) true 0 0 lx hx n1 n2 (Nat.le_refl _) (Nat.le_refl _)
          refine ⟨rfl, .slice none 0 0, ?_, by simp [RV]⟩
          simp [Instr.sliceAt, Instr.slice, run_underlying g1, hb, sizeOf, typeInfo, g2, g3]
        · simp at h0
      · simp at hs
    case vw id e lo0 n fl =>
      cases fl <;> simp only at hs
      · simp at hs
      split at hs
      · rename_i heq te2 e2 xs a0 b0 _ ho hA hB
        subst heq
        simp only [RV] at ha
        obtain ⟨hU, A, m0, c0, A', c', e1, e6, e7, rfl, e2', e3, e4, e5⟩ := ha
        obtain ⟨rfl, hn0⟩ := raw_cap (R.obj id _ ho).2 e1
        have e4 := e4 trivial
        split at hs
        · -- no bound
          simp only [Option.some.injEq, Prod.mk.injEq] at hs
          obtain ⟨rfl, rfl, rfl⟩ := hs
          have c1 : 0 ≤ a0 := hc _ (by simp)
          have c2 : a0 ≤ b0 := hc _ (by simp)
          have c3 : (lo0 : Int) + b0 ≤ xs.length := hc _ (by simp)
          obtain ⟨a1, rfl, n1⟩ := toA hA c1
          obtain ⟨b1, rfl, n2⟩ := toB hB (by omega)
          rcases hmx with ⟨_, rfl⟩ | ⟨_, _, h0, _⟩
          · have hb := run_sliceBounds (P := P) (w := w) true n c' lx hx n1 n2 (by omega) (by omega)
            refine ⟨rfl, .slice (if c' = a1 then A' else A'.map (·.add (a1 * e'.cells))) (b1 - a1) (c' - a1), ?_, ?_⟩
            · simp [Instr.sliceAt, Instr.slice, run_underlying g1, hb, sizeOf, typeInfo, g2, g3]
            · simp only [RV, Int.toNat_natCast]
              refine ⟨hU, A, m0, _, _, _, e1, e6, e7, ?_, ?_, ?_, fun _ => ?_, cut_addr e5 c' (by omega) (Nat.le_refl _)⟩
              · congr 1; omega
              · omega
              · omega
              · omega
          · simp at h0
        · rename_i mk m
          split at hs
          · rename_i hv
            simp only [Option.some.injEq, Prod.mk.injEq] at hs
            obtain ⟨rfl, rfl, rfl⟩ := hs
            have c1 : 0 ≤ a0 := hc _ (by simp)
            have c2 : a0 ≤ b0 := hc _ (by simp)
            have c3 : b0 ≤ m := hc _ (by simp)
            have c4 : (lo0 : Int) + m ≤ xs.length := hc _ (by simp)
            obtain ⟨a1, rfl, n1⟩ := toA hA c1
            obtain ⟨b1, rfl⟩ := Int.eq_ofNat_of_zero_le (Int.le_trans c1 c2)
            obtain ⟨m1, rfl⟩ := Int.eq_ofNat_of_zero_le (show 0 ≤ m by omega)
            obtain ⟨k2, rfl⟩ := toI hB
            have hhx := isv hhi rfl
            have hmxx := isv hmx rfl
            subst hhx; subst hmxx
            have hb := run_sliceBounds3 (P := P) (w := w) true n c' lx (k2 := k2) (k3 := mk) n1 (show a1 ≤ b1 by omega) (show b1 ≤ m1 by omega) (show m1 ≤ c' by omega)
            refine ⟨rfl, .slice (if m1 = a1 then A' else A'.map (·.add (a1 * e'.cells))) (b1 - a1) (m1 - a1), ?_, ?_⟩
            · simp [Instr.sliceAt, Instr.slice, run_underlying g1, hb, sizeOf, typeInfo, g2, g3]
            · simp only [RV, Int.toNat_natCast]
              refine ⟨hU, A, m0, _, _, _, e1, e6, e7, ?_, ?_, ?_, fun h => by simp at h, cut_addr e5 m1 (by omega) (by omega)⟩
              · congr 1; omega
              · omega
              · omega
          · simp at hs
        · simp at hs
      · simp at hs
    case own id =>
      simp only [RV] at ha
      obtain ⟨hU, rfl, _⟩ := ha
      split at hs
      · rename_i te2 e2 xs mk m hv ho
        split at hs
        · rename_i heq a0 b0 _ hA hB
          subst heq
          simp only [Option.some.injEq, Prod.mk.injEq] at hs
          obtain ⟨rfl, rfl, rfl⟩ := hs
          have c1 : 0 ≤ a0 := hc _ (by simp)
          have c2 : a0 ≤ b0 := hc _ (by simp)
          have c3 : b0 ≤ m := hc _ (by simp)
          have c4 : m ≤ xs.length := hc _ (by simp)
          obtain ⟨a1, rfl, n1⟩ := toA hA c1
          obtain ⟨b1, rfl⟩ := Int.eq_ofNat_of_zero_le (Int.le_trans c1 c2)
          obtain ⟨m1, rfl⟩ := Int.eq_ofNat_of_zero_le (show 0 ≤ m by omega)
          obtain ⟨k2, rfl⟩ := toI hB
          have hhx := isv hhi rfl
          have hmxx := isv hmx rfl
          subst hhx; subst hmxx
          obtain ⟨A, cap, cells, q⟩ := view_of_arr (R.obj id _ ho).2
          have hle := q.le
          have hb := run_sliceBounds3 (P := P) (w := w) true xs.length cap lx (k2 := k2) (k3 := mk) n1 (show a1 ≤ b1 by omega) (show b1 ≤ m1 by omega) (show m1 ≤ cap by omega)
          refine ⟨rfl, .slice (if m1 = a1 then A else A.map (·.add (a1 * e2.cells))) (b1 - a1) (m1 - a1), ?_, ?_⟩
          · rw [q.val]
            simp [Instr.sliceAt, Instr.slice, run_underlying g1, hb, sizeOf, typeInfo, g2, g3]
          · simp only [RV, Int.toNat_natCast]
            refine ⟨hU, A, xs.length, cap, (if m1 = a1 then A else A.map (·.add (a1 * e2.cells))), m1 - a1, q.val, q.nil, q.max, ?_, ?_, ?_, fun h => by simp at h, ?_⟩
            · congr 1; omega
            · omega
            · omega
            · have := cut_addr (A := A) (A' := A) (c' := cap) (q := 0) (k := e2.cells) (a := a1) (.inr (by cases A <;> simp [Addr.add])) m1 (by omega) (by omega)
              simpa using this
        · simp at hs
      · simp at hs

theorem lenR_sound (hT : TabOk P T) (R : RelH C h w g) {t : TypeId} {v r : V} {x : Value} {c : List Prop} {news : Heap} (hs : lenR T t v = some (c, r, news)) (hv : RV C w g v x) {ty : TypeId} :
    news = [] ∧ ∃ val, (Builtin.len_ #[t] ty #[x]).run P w = .ok val w ∧ RV C w g r val := by
  unfold lenR at hs
  cases hti : T.ti t with
  | none => simp [hti] at hs
  | some i =>
    simp only [hti] at hs
    obtain ⟨inf, u, z, g1, g2, g3, g4, g5⟩ := ti_of hT hti
    split at hs
    · rename_i id e lo n fl hd
      simp only [Option.some.injEq, Prod.mk.injEq] at hs
      obtain ⟨rfl, rfl, rfl⟩ := hs
      rw [← g4] at hd
      obtain ⟨te, rfl⟩ := isSliceD_of hd
      simp only [RV] at hv
      obtain ⟨hU, A, m0, c0, A', c', e1, e6, e7, rfl, e2, e3, _⟩ := hv
      exact ⟨rfl, .int .i64 (n : Int), by simp [Builtin.len_, run_underlying g2, goInt], by simp only [RV, true_and]; exact wrap_len (by omega)⟩
    · simp at hs

theorem capR_sound (hT : TabOk P T) (R : RelH C h w g) {t : TypeId} {v r : V} {x : Value} {c : List Prop} {news : Heap} (hs : capR T t v h = some (c, r, news)) (hv : RV C w g v x) {ty : TypeId} :
    news = [] ∧ ∃ val, (Builtin.cap_ #[t] ty #[x]).run P w = .ok val w ∧ RV C w g r val := by
  unfold capR at hs
  cases hti : T.ti t with
  | none => simp [hti] at hs
  | some i =>
    simp only [hti] at hs
    obtain ⟨inf, u, z, g1, g2, g3, g4, g5⟩ := ti_of hT hti
    split at hs
    · rename_i id e lo n hd
      split at hs
      · rename_i te e2 xs ho
        simp only [Option.some.injEq, Prod.mk.injEq] at hs
        obtain ⟨rfl, rfl, rfl⟩ := hs
        rw [← g4] at hd
        obtain ⟨te, rfl⟩ := isSliceD_of hd
        simp only [RV] at hv
        obtain ⟨hU, A, m0, c0, A', c', e1, e6, e7, rfl, e2, e3, e4, _⟩ := hv
        obtain ⟨rfl, _⟩ := raw_cap (R.obj id _ ho).2 e1
        have e4 := e4 trivial
        refine ⟨rfl, .int .i64 (c' : Int), by simp [Builtin.cap_, run_underlying g2, goInt], ?_⟩
        have := wrap_len (show c' ≤ maxLen by omega)
        simp only [RV]
        refine ⟨?_, ?_, ?_⟩
        · congr 1; omega
        · rw [show (xs.length : Int) - (lo : Int) = (c' : Int) by omega]; exact this.1
        · rw [show (xs.length : Int) - (lo : Int) = (c' : Int) by omega]; exact this.2
      · simp at hs
    · rename_i hd
      simp only [Option.some.injEq, Prod.mk.injEq] at hs
      obtain ⟨rfl, rfl, rfl⟩ := hs
      rw [← g4] at hd
      obtain ⟨te, rfl⟩ := isSliceD_of hd
      simp only [RV] at hv
      subst hv
      exact ⟨rfl, .int .i64 0, by simp [Builtin.cap_, run_underlying g2, goInt], by simp [RV, IntKind.min, IntKind.max, IntKind.signed, IntKind.bits]⟩
    · simp at hs

section
variable {e : Ty} {F : Nat → Prop}
theorem rawRep_append {xs ys : List (Option e.den)} {cs ds : List Value} (hx : rawRep w F e xs cs) (hl : cs.length = xs.length * e.cells) (hy : rawRep w F e ys ds) : rawRep w F e (xs ++ ys) (cs ++ ds) := by
  intro i x hi
  by_cases hlt : i < xs.length
  · rw [List.getElem?_append_left hlt] at hi
    have := hx i x hi
    have hm : (i + 1) * e.cells ≤ xs.length * e.cells := Nat.mul_le_mul_right _ hlt
    rw [Nat.add_mul, Nat.one_mul] at hm
    rw [List.drop_append_of_le_length (by omega), List.take_append_of_le_length (by simp; omega)]
    exact this
  · rw [List.getElem?_append_right (by omega)] at hi
    have := hy _ x hi
    have hm : xs.length * e.cells ≤ i * e.cells := Nat.mul_le_mul_right _ (by omega)
    rw [List.drop_append, List.drop_eq_nil_of_le (by omega), List.nil_append, hl, ← Nat.sub_mul]
    exact this
theorem rawRep_take {xs : List (Option e.den)} {cs : List Value} (hx : rawRep w F e xs cs) (n : Nat) : rawRep w F e (xs.take n) (cs.take (n * e.cells)) := by
  intro i x hi
  have hlt : i < n := by
    have := (List.getElem?_eq_some_iff.1 hi).1
    simp at this; omega
  rw [List.getElem?_take_of_lt hlt] at hi
  have hm : (i + 1) * e.cells ≤ n * e.cells := Nat.mul_le_mul_right _ hlt
  rw [Nat.add_mul, Nat.one_mul] at hm
  rw [List.drop_take, List.take_take, Nat.min_eq_left (by omega)]
  exact hx i x hi
theorem rawRep_drop {xs : List (Option e.den)} {cs : List Value} (hx : rawRep w F e xs cs) (n : Nat) : rawRep w F e (xs.drop n) (cs.drop (n * e.cells)) := by
  intro i x hi
  rw [List.getElem?_drop] at hi
  rw [List.drop_drop, ← Nat.add_mul]
  exact hx _ x hi
theorem rawRep_some {ys : List e.den} {cs : List Value} (hy : reps w F e ys cs) : rawRep w F e (ys.map some) cs := by
  intro i x hi
  rw [List.getElem?_map] at hi
  cases hq : ys[i]? with
  | none => rw [hq] at hi; simp at hi
  | some y =>
    rw [hq] at hi
    simp at hi
    subst hi
    obtain ⟨hlt, rfl⟩ := List.getElem?_eq_some_iff.1 hq
    obtain ⟨ci, h1, h2⟩ := reps_at e ys cs hy i hlt
    rw [h2]; exact h1
theorem rawRep_none (m : Nat) (cs : List Value) : rawRep w F e (List.replicate m none) cs := by
  intro i x hi
  rw [List.getElem?_replicate] at hi
  split at hi <;> simp at hi
theorem mul_len {a b k : Nat} (h : a ≤ b) : a * k ≤ b * k := Nat.mul_le_mul_right _ h
theorem rawRep_splice {xs : List (Option e.den)} {cs ns : List Value} {ys : List e.den} (hx : rawRep w F e xs cs) (hl : cs.length = xs.length * e.cells) (hy : reps w F e ys ns) {lo : Nat} (hle : lo + ys.length ≤ xs.length) :
    rawRep w F e (xs.take lo ++ ys.map some ++ xs.drop (lo + ys.length)) (cs.take (lo * e.cells) ++ ns ++ cs.drop (lo * e.cells + ns.length)) := by
  have hn := reps_len e ys ns hy
  have h1 := mul_len (k := e.cells) (show lo ≤ xs.length by omega)
  refine rawRep_append (rawRep_append (rawRep_take hx lo) (by simp; rw [Nat.min_eq_left (by omega), Nat.min_eq_left (by omega)]) (rawRep_some hy)) ?_ ?_
  · rw [List.length_append, List.length_append, List.length_map, hn, List.length_take, List.length_take, Nat.add_mul, Nat.min_eq_left (by omega), Nat.min_eq_left (by omega)]
  · rw [hn, ← Nat.add_mul]; exact rawRep_drop hx _
theorem rawRep_all : ∀ {xs : List (Option e.den)} {cs : List Value}, rawRep w F e xs cs → cs.length = xs.length * e.cells → xs.all Option.isSome = true → reps w F e (xs.map fun r => r.getD e.dflt) cs
  | [], cs, _, hl, _ => by
    simp at hl
    subst hl; rfl
  | x :: xs, cs, hr, hl, ha => by
    simp only [List.all_cons, Bool.and_eq_true] at ha
    obtain ⟨y, rfl⟩ := Option.isSome_iff_exists.1 ha.1
    have h0 := hr 0 y (by simp)
    rw [Nat.zero_mul, List.drop_zero] at h0
    have ih := rawRep_all (xs := xs) (cs := cs.drop e.cells) (by have := rawRep_drop hr 1; simpa using this) (by simp [hl, Nat.add_mul]) ha.2
    exact ⟨cs.take e.cells, cs.drop e.cells, (List.take_append_drop _ _).symm, h0, ih⟩
end
theorem raw_cells {id : Nat} {te : TypeId} {e : Ty} {xs : List (Option e.den)} (ho : RO C w g id (.raw te e xs)) {lo n : Nat} {A : Option Addr} {m c : Nat} (ha : g.anch id = .slice A m c) (hn : 0 < lo + n) (hle : lo + n ≤ c) :
    ∃ blk cur, A = some ⟨blk, 0, none⟩ ∧ c = xs.length ∧ w.heap[blk]? = some (.cells cur te (0, 0)) ∧ xs.length ≤ maxLen ∧ cur.size = xs.length * e.cells ∧ rawRep w g.F e xs cur.toList ∧ MutOk C g blk := by
  cases A with
  | none =>
    obtain ⟨_, ⟨h1, h2⟩ | ⟨blk, m', cur, h1, _⟩⟩ := ho
    · rw [ha] at h1; simp at h1; omega
    · rw [ha] at h1; simp at h1
  | some ad =>
    obtain ⟨blk, cur, rfl, rfl, q⟩ := rawRow ho ha
    exact ⟨blk, cur, rfl, rfl, q⟩
theorem add0 (b n : Nat) : (⟨b, 0, none⟩ : Addr).add n = ⟨b, n, none⟩ := by rw [addr_add, Nat.zero_add]

theorem rowsOf_sound (R : RelH C h w g) {e : Ty} {v : V} {x : Value} {c : List Prop} {ys : List e.den} (hs : rowsOf h e v = some (c, ys)) (hc : ∀ p ∈ c, p) (hv : RV C w g v x) :
    ∃ A cap cells, View w g.F e ys x A cap cells := by
  unfold rowsOf at hs
  split at hs
  · rename_i id e' lo n fl
    simp only [RV] at hv
    obtain ⟨hU, A, m0, c0, A', c', e1, e6, e7, rfl, e2, e3, e4, e5⟩ := hv
    have empty : n = 0 → ys.length = 0 → ∃ A cap cells, View w g.F e ys (.slice A' n c') A cap cells := fun hn hy => by
      have : ys = [] := List.eq_nil_of_length_eq_zero hy
      subst this; subst hn
      refine ⟨A', c', [], ⟨rfl, rfl, Nat.zero_le _, by omega, fun ha => ?_, fun _ _ _ _ h => by simp at h, fun _ _ h => absurd rfl h⟩⟩
      rcases e5 with h | h
      · exact h.1
      · subst h
        cases A with
        | none => have := e6 rfl; omega
        | some ad => simp at ha
    split at hs
    · rename_i te e'' xs' ho
      split at hs
      · rename_i xs heq hcast _
        simp only [Option.some.injEq, Prod.mk.injEq] at hs
        obtain ⟨rfl, rfl⟩ := hs
        subst heq
        obtain ⟨rfl, hxs⟩ := castO_eq hcast
        simp at hxs
        subst hxs
        have hall : ((xs'.drop lo).take n).all Option.isSome = true := hc _ (by simp)
        have hO := (R.obj id _ ho).2
        by_cases hn : n = 0
        · exact empty hn (by simp [hn])
        · obtain ⟨blk, cur, rfl, rfl, q1, q2, q3, q4, q5⟩ := raw_cells hO e1 (lo := lo) (n := n) (by omega) (by omega)
          have hA : A' = some ⟨blk, lo * e''.cells, none⟩ := by
            rcases e5 with h | h
            · omega
            · rw [h]; simp [add0]
          subst hA
          have hlen : ((xs'.drop lo).take n).length = n := by simp; omega
          have hrows := rawRep_all (rawRep_take (rawRep_drop q4 lo) n) (by
            rw [List.length_take, List.length_drop, hlen, Array.length_toList, q3, ← Nat.sub_mul]
            exact Nat.min_eq_left (mul_len (by omega))) hall
          refine ⟨_, c', _, ⟨by rw [List.length_map, hlen], hrows, by rw [List.length_map, hlen]; exact e3, by omega, fun h => by simp at h, fun ad had j u hu => ?_, fun ad had _ => ?_⟩⟩
          · simp at had; subst had
            have hj : j < n * e''.cells := by
              have := (List.getElem?_eq_some_iff.1 hu).1
              simp at this; omega
            rw [List.getElem?_take_of_lt hj, List.getElem?_drop] at hu
            rw [addr_add, cell_of_row w blk _ _ _ _ q1]
            rw [← hu]; simp
          · simp at had; subst had
            exact (Array.getElem?_eq_some_iff.1 q1).1
      · simp at hs
    · rename_i te e'' xs' ho
      split at hs
      · rename_i xs heq hcast _
        simp only [Option.some.injEq, Prod.mk.injEq] at hs
        obtain ⟨rfl, rfl⟩ := hs
        subst heq
        obtain ⟨rfl, hxs⟩ := castL_eq hcast
        simp at hxs
        subst hxs
        have hle : lo + n ≤ xs'.length := hc _ (by simp)
        by_cases hn : n = 0
        · exact empty hn (by simp [hn])
        · obtain ⟨A2, cap2, cells2, q⟩ := view_of_arr (R.obj id _ ho).2
          have hv2 := q.val
          rw [e1] at hv2
          simp at hv2
          obtain ⟨rfl, rfl, rfl⟩ := hv2
          cases A with
          | none => have := e6 rfl; omega
          | some ad =>
          have hA : A' = some (ad.add (lo * e''.cells)) := by
            rcases e5 with h | h
            · omega
            · rw [h]; rfl
          subst hA
          have hlen : ((xs'.drop lo).take n).length = n := by simp; omega
          have hcl := reps_len _ _ _ q.rows
          have hr := reps_take _ _ _ (reps_drop _ _ _ q.rows lo) n
          refine ⟨_, c', _, ⟨by rw [hlen], hr, by rw [hlen]; exact e3, by omega, fun h => by simp at h, fun ad' had j u hu => ?_, fun ad' had _ => ?_⟩⟩
          · simp at had; subst had
            have hj : j < n * e''.cells := by
              have := (List.getElem?_eq_some_iff.1 hu).1
              simp at this; omega
            rw [List.getElem?_take_of_lt hj, List.getElem?_drop] at hu
            rw [add_add]
            exact q.cell ad rfl _ u hu
          · simp at had; subst had
            rw [add_block]
            exact q.blk ad rfl (fun h0 => by subst h0; simp at hle; omega)
      · simp at hs
    · simp at hs
  · cases hvw : viewL h true e v with
    | none => simp [hvw] at hs
    | some zs =>
      simp only [hvw, Option.some.injEq, Prod.mk.injEq] at hs
      obtain ⟨rfl, rfl⟩ := hs
      obtain ⟨A, cap, cells, q, _⟩ := viewL_sound R hvw hv
      exact ⟨A, cap, cells, q⟩

theorem RelH.look {h2 : Heap} (R : RelH C h w g) (hl : ∀ k, lookN h2 k = lookN h k) : RelH C h2 w g :=
  ⟨R.keep, R.size, R.os, R.tape, R.output, R.F, R.Fin, R.pin, R.lam, fun id o ho => R.obj id o (by rw [← hl]; exact ho), fun id o id' o' b h1 h2 => R.sep id o id' o' b (by rw [← hl]; exact h1) (by rw [← hl]; exact h2)⟩
theorem RelH.same (R : RelH C h w g) {id : Nat} {o : Obj} (ho : lookN h id = some o) : RelH C (setObj h id o) w g :=
  R.look fun k => by
    rw [lookN_setObj]
    by_cases hk : k = id
    · subst hk; simp [ho]
    · rw [if_neg hk]
theorem RelH.rows (R : RelH C h w g) {id : Nat} {te : TypeId} {e : Ty} {xs xs' : List (Option e.den)} (ho : lookN h id = some (.raw te e xs)) {blk m : Nat} {cur : Array Value} (ha : g.anch id = .slice (some ⟨blk, 0, none⟩) m xs.length)
    (hg : w.heap[blk]? = some (.cells cur te (0, 0))) {cs : List Value} (hl : xs'.length = xs.length) (hcl : cs.length = cur.size) (hrep : rawRep w g.F e xs' cs) :
    RelH C (setObj h id (.raw te e xs')) (w.setRow blk cs.toArray) g ∧ Evo w g (w.setRow blk cs.toArray) g := by
  have hO := (R.obj id _ ho).2
  have hO' := hO
  obtain ⟨hc0, ⟨h1, _⟩ | ⟨blk2, m2, cur2, h1, h2, h3, h4, h5, h6, h7⟩⟩ := hO'
  · rw [ha] at h1; simp at h1
  · rw [ha] at h1; simp at h1
    obtain ⟨rfl, rfl⟩ := h1
    rw [hg] at h2
    simp at h2
    subst h2
    refine R.write ho rfl rfl (blk := blk) (by rw [ha]; rfl) (fun b hb => setRow_other w blk b _ hb) (by simp [World.setRow]) rfl rfl rfl (fun ev => ?_)
    refine ⟨hc0, .inr ⟨blk, m, cs.toArray, by rw [ha, hl], setRow_heap w blk _ _ te _ hg, by omega, by omega, ?_, ?_, h7⟩⟩
    · rw [List.size_toArray, hcl, h5, hl]
    · simpa using rawRep_mono ev.F hrep

theorem storeR_sound (hT : TabOk P T) (R : RelH C h w g) {t : TypeId} {a v r : V} {x y : Value} {c : List Prop} {h' : Heap} (hs : storeR T t a v h = some (c, r, h')) (hc : ∀ p ∈ c, p)
    (ha : RV C w g a x) (hv : RV C w g v y) : ∃ w' g', (Instr.storeAt t x y).run P w = .ok () w' ∧ WRes C w g fresh .any h' undef w' g' := by
  unfold storeR at hs
  cases hti : T.ti t with
  | none => simp [hti] at hs
  | some i =>
    obtain ⟨inf, u, z, g1, g2, g3, g4, g5, g6⟩ := ti_of hT hti
    simp only [hti] at hs
    cases hb : (Nat.beq v.cells.length i.size && v.cells.all V.one)
    · simp [hb] at hs
    simp only [hb] at hs
    simp only [Bool.and_eq_true] at hb
    have hlen := Nat.eq_of_beq_eq_true hb.1
    have hcv := RV_cells hv hb.2
    have hone := RVs_one hb.2 hcv
    have hsz : y.cells.size = inf.size := by have := RVs_len hcv; simp at this; omega
    split at hs
    · rename_i id e row
      simp only [RV] at ha
      obtain ⟨hU, ad, n, cp, h1, rfl⟩ := ha
      obtain ⟨F', R1, e1, _⟩ := freezeAll_sound (w := w) v.cells h g R
      split at hs
      · rename_i te e' xs' ho1
        split at hs
        · rename_i xs hcast hsize
          obtain ⟨rfl, hxs⟩ := castO_eq hcast
          simp at hxs
          subst hxs
          have hse := Nat.eq_of_beq_eq_true hsize
          split at hs
          · rename_i yv hden
            simp only [Option.some.injEq, Prod.mk.injEq] at hs
            obtain ⟨rfl, rfl, rfl⟩ := hs
            have hrow : row < xs'.length := hc _ (by simp)
            have h1' : (⟨g.anch, F', g.U⟩ : Gh).anch id = g.anch id := rfl
            have hcv1 := RVs_mono e1 _ _ hcv
            have hden' := toDen_all R1 hden hcv1
            obtain ⟨blk, cur, rfl, rfl, q1, q2, q3, q4, q5⟩ := rawRow (R1.obj id _ ho1).2 (h1'.trans h1)
            have hrl := mul_len (k := e'.cells) (show row + 1 ≤ xs'.length by omega)
            rw [Nat.add_mul, Nat.one_mul] at hrl
            have hrun := run_storeVar_at (P := P) (w := w) g1 (o := row * e'.cells) q1 hsz (by omega) hone
            have hsp := rawRep_splice (ys := [yv]) q4 (by simpa using q3) ⟨_, [], (List.append_nil _).symm, hden', rfl⟩ (lo := row) (by simp; omega)
            have hxs : xs'.take row ++ [yv].map some ++ xs'.drop (row + [yv].length) = xs'.set row (some yv) := by
              rw [List.set_eq_take_append_cons_drop, if_pos hrow]; simp
            rw [hxs] at hsp
            have hyl : y.cells.toList.length = y.cells.size := by simp
            obtain ⟨R', e2⟩ := R1.rows (xs' := xs'.set row (some yv)) ho1 (h1'.trans h1) q1 (by simp) (cs := cur.toList.take (row * e'.cells) ++ y.cells.toList ++ cur.toList.drop (row * e'.cells + y.cells.toList.length)) (by simp; omega) hsp
            rw [hyl] at R' e2
            refine ⟨_, ⟨g.anch, F', g.U⟩, ?_, R', e1.trans e2, by simp [RV], fun id h => .inl h⟩
            simp only [Instr.storeAt, Instr.sureAddr, add0, Nat.add_zero]
            simp [hrun]
          · simp at hs
        · simp at hs
      · simp at hs
    · simp at hs

theorem run_copy_zero {t ty te : TypeId} {inf : TypeInfo} (g1 : P.underlying t = some (.slice te)) (g2 : P.info? te = some inf) {e : Ty} {F : Nat → Prop} {A : Option Addr} {n c : Nat} {ys : List e.den} {x : Value} {A2 : Option Addr} {cap : Nat} {cells : List Value} (q : View w F e ys x A2 cap cells) (hz : min ys.length n = 0) :
    (Builtin.copy_ #[t, t] ty #[.slice A n c, x]).run P w = .ok (.int .i64 ((min ys.length n : Nat) : Int)) w := by
  rw [q.val]
  have hz' : Nat.min ys.length n = 0 := hz
  cases A2 <;> cases A <;> simp [Builtin.copy_, run_underlying g1, Builtin.lenOf, Builtin.firstCells, sizeOf, typeInfo, g2, goInt, hz', loadCells, loadCellsFrom, storeCells]
theorem run_copy_at {te : TypeId} {e : Ty} {inf : TypeInfo} {t ty : TypeId} (g1 : P.underlying t = some (.slice te)) (g2 : P.info? te = some inf) (g3 : inf.size = e.cells)
    {ys : List e.den} {x : Value} {ncells : List Value} {A : Option Addr} {cap : Nat} {F : Nat → Prop} {gg o n dcap : Nat} {cur : Array Value} (hg : w.heap[gg]? = some (.cells cur te (0, 0))) (hfit : o + n * e.cells ≤ cur.size) (q : View w F e ys x A cap ncells) :
    (Builtin.copy_ #[t, t] ty #[.slice (some ⟨gg, o, none⟩) n dcap, x]).run P w = .ok (.int .i64 ((min ys.length n : Nat) : Int))
      (w.setRow gg (cur.toList.take o ++ ncells.take (min ys.length n * e.cells) ++ cur.toList.drop (o + min ys.length n * e.cells)).toArray) := by
  rw [q.val]
  have hnl := reps_len e _ _ q.rows
  have hmn : min ys.length n * e.cells ≤ ys.length * e.cells := mul_len (Nat.min_le_left _ _)
  have hmn2 : min ys.length n * e.cells ≤ n * e.cells := mul_len (Nat.min_le_right _ _)
  have hlen : (ncells.take (min ys.length n * e.cells)).length = min ys.length n * e.cells := by simp; omega
  have hst := run_storeCells_at P gg o te (ncells.take (min ys.length n * e.cells)) 0 cur w hg (by rw [hlen]; omega) (fun v hv => reps_one e _ _ q.rows v (List.mem_of_mem_take hv))
  simp only [Nat.add_zero, hlen] at hst
  cases A with
  | none =>
    have h0 := q.nil rfl
    have hy : ys = [] := List.eq_nil_of_length_eq_zero (by have := q.le; omega)
    subst hy
    have hn := q.rows
    simp only [reps] at hn
    subst hn
    simp [Builtin.copy_, run_underlying g1, Builtin.lenOf, Builtin.firstCells, sizeOf, typeInfo, g2, goInt] at hst ⊢
    rw [hst]
    rfl
  | some ad =>
    have hl := run_loadCells_list (P := P) w ad (ncells.take (min ys.length n * e.cells)) (fun j u hu => by
      refine q.cell ad rfl j u ?_
      have hj : j < min ys.length n * e.cells := by have := (List.getElem?_eq_some_iff.1 hu).1; omega
      rwa [List.getElem?_take_of_lt hj] at hu)
    rw [hlen] at hl
    simp [Builtin.copy_, run_underlying g1, Builtin.lenOf, Builtin.firstCells, sizeOf, typeInfo, g2, g3, goInt, hl]
    rw [hst]
    simp only [Result.andThen_ok, List.append_assoc]
    try rfl

theorem narrow_run {a : V} {x : Value} {n : Nat} (ha : RV C w g a x) : ∃ x2, RV C w g (narrow n a) x2 ∧ ∀ (A : Option Addr) (cc : Nat) (t ty : TypeId), (Builtin.copy_ #[t, t] ty #[.slice A n cc, x]).run P w = (Builtin.copy_ #[t, t] ty #[.slice A n cc, x2]).run P w := by
  unfold narrow
  split
  · rename_i id e lo m fl
    simp only [RV] at ha
    obtain ⟨hU, A, m0, c0, A', c', e1, e6, e7, rfl, e2, e3, e4, e5⟩ := ha
    refine ⟨Value.slice A' (min m n) c', ?_, fun A cc t ty => ?_⟩
    · simp only [RV]
      exact ⟨hU, A, m0, c0, A', c', e1, e6, e7, rfl, e2, Nat.le_trans (Nat.min_le_left _ _) e3, fun h => by simp at h, e5⟩
    · have hm : Nat.min (min m n) n = Nat.min m n := by show min (min m n) n = min m n; omega
      cases A' <;> simp [Builtin.copy_, Builtin.lenOf, hm, Builtin.firstCells]
  · exact ⟨x, ha, fun _ _ _ _ => rfl⟩
theorem copyR_sound (hT : TabOk P T) (R : RelH C h w g) {t ty : TypeId} {d a v : V} {dx x : Value} {c : List Prop} {h' : Heap} (hs : copyR T t d a h = some (c, v, h')) (hc : ∀ p ∈ c, p)
    (hd : RV C w g d dx) (ha : RV C w g a x) : ∃ val w' g', (Builtin.copy_ #[t, t] ty #[dx, x]).run P w = .ok val w' ∧ WRes C w g fresh v h' val w' g' := by
  unfold copyR at hs
  split at hs
  · rename_i te e bytes zero id e0 lo n fl he
    obtain ⟨inf, z, g1, g2, g3, g4, g5, g6, g7, g8, g9⟩ := elem_of hT he
    split at hs
    · rename_i te' e' xs' ho
      split at hs
      · rename_i xs heq c1 ys hbt hcast _ hrows
        simp only [Option.some.injEq, Prod.mk.injEq] at hs
        obtain ⟨rfl, rfl, rfl⟩ := hs
        subst heq
        obtain rfl := Nat.eq_of_beq_eq_true hbt
        obtain ⟨rfl, hxs⟩ := castO_eq hcast
        simp at hxs
        subst hxs
        obtain ⟨x2, ha, hx2⟩ := narrow_run (P := P) (n := n) ha
        obtain ⟨A2, cap2, ncells, q⟩ := rowsOf_sound R hrows hc ha
        simp only [RV] at hd
        obtain ⟨hU, A, m0, c0, A', c', e1, e6, e7, rfl, e2, e3, e4, e5⟩ := hd
        rw [hx2]
        clear hx2
        have hval : ∀ m : Nat, m ≤ n → RV C w g (.i .i64 (m : Int)) (.int .i64 (m : Int)) := fun m hm => by
          simp only [RV, true_and]; exact wrap_len (by omega)
        by_cases hz : min ys.length n = 0
        · have hy : ys.take n = [] := List.eq_nil_of_length_eq_zero (by rw [List.length_take]; omega)
          have hsame : xs'.take lo ++ (ys.take n).map some ++ xs'.drop (lo + (ys.take n).length) = xs' := by rw [hy]; simp
          rw [hsame]
          refine ⟨_, w, g, run_copy_zero g1 g2 q hz, R.same ho, Evo.refl _ _, hval _ (Nat.min_le_right _ _), fun id h => .inl h⟩
        · obtain ⟨blk, cur, rfl, rfl, q1, q2, q3, q4, q5⟩ := raw_cells (R.obj id _ ho).2 e1 (lo := lo) (n := n) (by omega) (by omega)
          have hA : A' = some ⟨blk, lo * e'.cells, none⟩ := by
            rcases e5 with h | h
            · omega
            · rw [h]; simp [add0]
          subst hA
          have hln : lo + n ≤ xs'.length := by omega
          have hm1 := mul_len (k := e'.cells) hln
          rw [Nat.add_mul] at hm1
          have hrun := run_copy_at (P := P) (ty := ty) (dcap := c') g1 g2 g3 q1 (o := lo * e'.cells) (n := n) (by omega) q
          have hyl : (ys.take n).length = min ys.length n := by rw [List.length_take, Nat.min_comm]
          have htake : reps w g.F e' (ys.take n) (ncells.take (min ys.length n * e'.cells)) := by
            have := reps_take e' ys ncells q.rows (min ys.length n)
            rwa [show ys.take (min ys.length n) = ys.take n by rw [Nat.min_comm, List.take_eq_take_min (i := n)]] at this
          have hnl := reps_len _ _ _ htake
          have hsp := rawRep_splice q4 (by simpa using q3) htake (lo := lo) (by rw [hyl]; omega)
          have hkk : (ys.take n).length * e'.cells ≤ n * e'.cells := mul_len (by rw [hyl]; omega)
          obtain ⟨R', e2'⟩ := R.rows (xs' := xs'.take lo ++ (ys.take n).map some ++ xs'.drop (lo + (ys.take n).length)) ho e1 q1 (by
            rw [List.length_append, List.length_append, List.length_map, List.length_take, List.length_drop]; omega) (cs := _) (by
            rw [List.length_append, List.length_append, hnl, List.length_take, List.length_drop, Array.length_toList]; omega) hsp
          rw [hnl, hyl] at R' e2'
          refine ⟨_, _, g, hrun, ?_, e2', RV_mono e2' _ _ (hval _ (Nat.min_le_right _ _)), fun id h => .inl h⟩
          rw [hyl]; exact R'
      · simp at hs
    · simp at hs
  · simp at hs

theorem zeroD_rep (R : RelH C h w g) {e : Ty} {zero : List ZC} {z : Value} {zd : e.den} (g6 : z.cells.toList.map zcOf = zero) (hz : zeroD e zero = some zd) : rep w g.F e zd z.cells.toList := by
  unfold zeroD at hz
  split at hz
  · rename_i z' hone hden
    simp only [Option.some.injEq] at hz
    subst hz
    rw [← g6] at hden hone
    have hzc := zero_cells (C := C) (w := w) (g := g) z.cells.toList hone
    have R0 : RelH C [] w g := ⟨R.keep, R.size, R.os, R.tape, R.output, R.F, R.Fin, R.pin, R.lam, fun _ _ h => by simp [lookN] at h, fun _ _ _ _ _ h => by simp [lookN] at h⟩
    exact toDen_all R0 hden hzc
  · simp at hz

theorem zeroCells_eq (z : Array Value) (n : Nat) : (Builtin.zeroCells z n).toList = repL z.toList n := madeCells_eq z n
theorem clearR_sound (hT : TabOk P T) (R : RelH C h w g) {t ty : TypeId} {d v : V} {dx : Value} {c : List Prop} {h' : Heap} (hs : clearR T t d h = some (c, v, h')) 
    (hd : RV C w g d dx) : ∃ val w' g', (Builtin.clear_ #[t] ty #[dx]).run P w = .ok val w' ∧ WRes C w g fresh v h' val w' g' := by
  unfold clearR at hs
  split at hs
  · rename_i te e bytes zero id e0 lo n fl he
    obtain ⟨inf, z, g1, g2, g3, g4, g5, g6, g7, g8, g9⟩ := elem_of hT he
    split at hs
    · rename_i te' e' xs' ho
      split at hs
      · rename_i xs heq zd hbt hcast _ hzd
        simp only [Option.some.injEq, Prod.mk.injEq] at hs
        obtain ⟨rfl, rfl, rfl⟩ := hs
        subst heq
        obtain rfl := Nat.eq_of_beq_eq_true hbt
        obtain ⟨rfl, hxs⟩ := castO_eq hcast
        simp at hxs
        subst hxs
        have hrep := zeroD_rep R g6 hzd
        simp only [RV] at hd
        obtain ⟨hU, A, m0, c0, A', c', e1, e6, e7, rfl, e2, e3, e4, e5⟩ := hd
        have htup : ∀ w' : World, RV C w' g (.tup []) (.tuple #[]) := fun w' => by simp only [RV]; exact ⟨[], rfl, rfl⟩
        by_cases hz : n = 0
        · subst hz
          have hsame : xs'.take lo ++ List.replicate 0 (some zd) ++ xs'.drop (lo + 0) = xs' := by simp
          rw [hsame]
          refine ⟨.tuple #[], w, g, ?_, R.same ho, Evo.refl _ _, htup w, fun id h => .inl h⟩
          cases A' <;> simp [Builtin.clear_, run_underlying g1]
        · obtain ⟨blk, cur, rfl, rfl, q1, q2, q3, q4, q5⟩ := raw_cells (R.obj id _ ho).2 e1 (lo := lo) (n := n) (by omega) (by omega)
          have hA : A' = some ⟨blk, lo * e'.cells, none⟩ := by
            rcases e5 with h | h
            · omega
            · rw [h]; simp [add0]
          subst hA
          have hln : lo + n ≤ xs'.length := by omega
          have hm1 := mul_len (k := e'.cells) hln
          rw [Nat.add_mul] at hm1
          have htake := reps_replicate hrep n
          have hnl := reps_len _ _ _ htake
          rw [List.length_replicate] at hnl
          have hst := run_storeCells_at P blk (lo * e'.cells) te (repL z.cells.toList n) 0 cur w q1 (by rw [hnl]; omega) (fun v hv => reps_one e' _ _ htake v hv)
          simp only [Nat.add_zero] at hst
          have hsp := rawRep_splice q4 (by simpa using q3) htake (lo := lo) (by rw [List.length_replicate]; omega)
          have hlist : xs'.take lo ++ (List.replicate n zd).map some ++ xs'.drop (lo + (List.replicate n zd).length) = xs'.take lo ++ List.replicate n (some zd) ++ xs'.drop (lo + n) := by simp
          rw [hlist] at hsp
          obtain ⟨R', e2'⟩ := R.rows (xs' := xs'.take lo ++ List.replicate n (some zd) ++ xs'.drop (lo + n)) ho e1 q1 (by
            rw [List.length_append, List.length_append, List.length_replicate, List.length_take, List.length_drop]; omega) (cs := _) (by
            rw [List.length_append, List.length_append, hnl, List.length_take, List.length_drop, Array.length_toList]; omega) hsp
          refine ⟨.tuple #[], _, g, ?_, R', e2', htup _, fun id h => .inl h⟩
          obtain ⟨m, rfl⟩ : ∃ m, n = m + 1 := ⟨n - 1, by omega⟩
          have hzc := zeroCells_eq z.cells (m + 1)
          simp [Builtin.clear_, run_underlying g1, zeroValue, typeInfo, g2, g5, hzc, hst]
      · simp at hs
    · simp at hs
  · simp at hs

theorem RelH.newRaw (R : RelH C h w g) (hf : FreshIds g fresh) {te : TypeId} {e : Ty} (h0 : 0 < e.cells) {xs : List (Option e.den)} {cur : Array Value} {n : Nat} {wd : World} (hb0 : Below w.heap.size w wd) (hsz : wd.heap.size = w.heap.size) (hl : cur.size = xs.length * e.cells) (hm : xs.length ≤ maxLen) (hn : n ≤ xs.length) (hrep : rawRep w g.F e xs cur.toList) :
    ∃ g', WRes C w g fresh (.vw fresh e 0 n true) ((fresh, .raw te e xs) :: h) (.slice (some ⟨w.heap.size, 0, none⟩) n xs.length) (wd.alloc (.cells cur te)) g' := by
  have hU := hf fresh (Nat.le_refl _) (by omega)
  have hb : Below w.heap.size w (wd.alloc (.cells cur te)) := hb0.alloc (by omega) _
  have ev : Evo w g (wd.alloc (.cells cur te)) (g.new fresh (.slice (some ⟨w.heap.size, 0, none⟩) n xs.length)) := evo_new hU _ (fun b h => hb.block b (R.F b h))
  have hnew : (wd.alloc (.cells cur te)).heap[w.heap.size]? = some (.cells cur te) := by rw [← hsz]; exact heap_alloc_new wd _
  refine ⟨_, (QRes.one (av := .slice (some ⟨w.heap.size, 0, none⟩) n xs.length) (v := .vw fresh e 0 n true) (o := .raw te e xs) hU hb R.F ?_ ?_ (fun b hb' => by simp [ablk] at hb'; omega)).wres R⟩
  · simp only [RV]
    exact ⟨.inr rfl, _, _, _, _, _, upd_same _ _ _, by simp, hm, rfl, by omega, hn, fun _ => by omega, .inr (by simp [Addr.add])⟩
  · refine ⟨h0, .inr ⟨w.heap.size, n, cur, upd_same _ _ _, hnew, hn, hm, hl, rawRep_mono ev.F hrep, .inr R.size, fun hF => ?_⟩⟩
    have := R.F _ hF
    omega

theorem appendR_sound (hT : TabOk P T) (R : RelH C h w g) (hf : FreshIds g fresh) {t ty : TypeId} {s a : V} {sx x : Value} {K : V → Heap → Prop} (hs : appendR T t s a fresh h K)
    (hsv : RV C w g s sx) (ha : RV C w g a x) : ∃ val w' g' v h', (Builtin.append_ #[t, t] ty #[sx, x]).run P w = .ok val w' ∧ K v h' ∧ WRes C w g fresh v h' val w' g' := by
  unfold appendR at hs
  split at hs
  · rename_i te e bytes zero id e0 lo n he
    obtain ⟨inf, z, g1, g2, g3, g4, g5, g6, g7, g8, g9⟩ := elem_of hT he
    split at hs
    · rename_i te' e' xs' ho
      split at hs
      · rename_i xs heq c1 ys hbt hlo hcast _ hrows
        subst heq
        obtain rfl := Nat.eq_of_beq_eq_true hbt
        obtain rfl := Nat.eq_of_beq_eq_true hlo
        obtain ⟨rfl, hxs⟩ := castO_eq hcast
        simp at hxs
        subst hxs
        obtain ⟨hc1, hs⟩ := conj_out' hs
        obtain ⟨hc2, hs⟩ := conj_out' hs
        have hby : (n + ys.length) * bytes ≤ 140737488355328 := hc2 _ (by simp)
        have hmx : n + ys.length ≤ maxLen := hc2 _ (by simp)
        obtain ⟨A2, cap2, ncells, q⟩ := rowsOf_sound R hrows hc1 ha
        simp only [RV] at hsv
        obtain ⟨hU, A, m0, c0, A', c', e1, e6, e7, rfl, e2, e3, e4, e5⟩ := hsv
        have e4 := e4 trivial
        rw [Nat.zero_add] at e4
        subst e4
        obtain ⟨rfl, hm0⟩ := raw_cap (R.obj id _ ho).2 e1
        have hO := (R.obj id _ ho).2
        by_cases hroom : n + ys.length ≤ xs'.length
        · have hK := (hs.1 hroom).out
          by_cases hy : ys = []
          · subst hy
            have hsame : xs'.take n ++ ([] : List e'.den).map some ++ xs'.drop (n + ([] : List e'.den).length) = xs' := by simp
            rw [hsame] at hK
            refine ⟨.slice A' n xs'.length, w, g, _, _, ?_, hK, R.same ho, Evo.refl _ _, ?_, fun id h => .inl h⟩
            · rw [q.val]
              cases A2 <;> cases A' <;> simp [Builtin.append_, run_underlying g1, sizeOf, typeInfo, g2, Builtin.lenOf, Builtin.firstCells, loadCells, loadCellsFrom, storeCells, e3]
            · simp only [RV]
              exact ⟨hU, A, m0, _, _, _, e1, e6, e7, by simp, by omega, by simpa using e3, fun _ => by omega, e5⟩
          · obtain ⟨blk, cur, rfl, _, q1, q2, q3, q4, q5⟩ := raw_cells (R.obj id _ ho).2 e1 (lo := n) (n := ys.length) (by have := List.length_pos_iff.2 hy; omega) (by omega)
            have hylen := List.length_pos_iff.2 hy
            have hA : A' = some ⟨blk, 0, none⟩ := by
              rcases e5 with h | h
              · omega
              · rw [h]; simp [Addr.add]
            subst hA
            cases A2 with
            | none => have := q.nil rfl; have := q.le; omega
            | some ad =>
              have hnl := reps_len _ _ _ q.rows
              have hm1 := mul_len (k := e'.cells) hroom
              rw [Nat.add_mul] at hm1
              have hrun := run_append_room (P := P) w t ty te inf g1 g2 blk n xs'.length cur q1 ad ys.length cap2 ncells (by rw [g3]; exact hnl) (q.cell ad rfl) (reps_one _ _ _ q.rows) hroom (by rw [g3, hnl, q3]; omega)
              rw [g3] at hrun
              have hsp := rawRep_splice q4 (by simpa using q3) q.rows (lo := n) hroom
              obtain ⟨R', e2'⟩ := R.rows (xs' := xs'.take n ++ ys.map some ++ xs'.drop (n + ys.length)) ho e1 q1 (by
                rw [List.length_append, List.length_append, List.length_map, List.length_take, List.length_drop]; omega) (cs := _) (by
                rw [List.length_append, List.length_append, hnl, List.length_take, List.length_drop, Array.length_toList]; omega) hsp
              refine ⟨_, _, g, _, _, by rw [q.val]; exact hrun, hK, R', e2', ?_, fun id h => .inl h⟩
              simp only [RV]
              exact ⟨hU, _, m0, _, _, _, e1, by simp, e7, rfl, by omega, hroom, fun _ => by omega, .inr (by simp [Addr.add])⟩
        · have hgrow : xs'.length < n + ys.length := by omega
          have hylen : 0 < ys.length := by omega
          have hK := hs.2 hgrow
          cases A2 with
          | none => have := q.nil rfl; have := q.le; omega
          | some ad =>
            have hnl := reps_len _ _ _ q.rows
            have hge := grownCap_ge w (n + ys.length) xs'.length te
            have hcm := grownCap_le_maxLen w (n + ys.length) xs'.length te hmx
            have h63 : ((n + ys.length : Nat) : Int) ≤ 9223372036854775807 := by simp only [maxLen] at hmx; omega
            have key : ∀ (olds : List Value), olds.length = n * e'.cells → rawRep w g.F e' (xs'.take n) olds →
                (Builtin.append_ #[t, t] ty #[.slice A' n xs'.length, .slice (some ad) ys.length cap2]).run P w = .ok (.slice (some ⟨w.heap.size, 0, none⟩) (n + ys.length) (grownCap w (n + ys.length) xs'.length te))
                  (w.drew.alloc (.cells (olds.toArray ++ ncells.toArray ++ Builtin.zeroCells z.cells (grownCap w (n + ys.length) xs'.length te - (n + ys.length))) te)) →
                ∃ val w' g' v h', (Builtin.append_ #[t, t] ty #[.slice A' n xs'.length, x]).run P w = .ok val w' ∧ K v h' ∧ WRes C w g fresh v h' val w' g' := by
              intro olds hol hor hrun
              have hlen : (xs'.take n ++ ys.map some ++ List.replicate (grownCap w (n + ys.length) xs'.length te - (n + ys.length)) none).length = grownCap w (n + ys.length) xs'.length te := by
                simp; omega
              have hrr : rawRep w g.F e' (xs'.take n ++ ys.map some ++ List.replicate (grownCap w (n + ys.length) xs'.length te - (n + ys.length)) none)
                  (olds.toArray ++ ncells.toArray ++ Builtin.zeroCells z.cells (grownCap w (n + ys.length) xs'.length te - (n + ys.length))).toList := by
                simp only [Array.toList_append]
                refine rawRep_append (rawRep_append hor (by rw [hol, List.length_take, Nat.min_eq_left (by omega)]) (rawRep_some q.rows)) ?_ (rawRep_none _ _)
                rw [List.length_append, List.length_append, List.length_map, List.length_take, Nat.min_eq_left (by omega), Nat.add_mul, ← hnl]
                simp [hol]
              obtain ⟨g', hW⟩ := R.newRaw hf (te := te) g7 (n := n + ys.length) (wd := w.drew) (Below.refl _ _ |>.drew) rfl (by
                rw [hlen]
                simp only [Array.size_append, List.size_toArray, size_zeroCells, g8, hol, hnl, ← Nat.add_mul]
                congr 1; omega) (by rw [hlen]; exact hcm) (by rw [hlen]; exact hge) hrr
              rw [hlen] at hW
              exact ⟨_, _, g', _, _, by rw [q.val]; exact hrun, (hK _ hge).out, hW⟩
            by_cases hn0 : A' = none
            · subst hn0
              have hx0 : xs'.length = 0 := by
                rcases e5 with h | h
                · exact h.1
                · cases A with
                  | none => exact e6 rfl
                  | some ad => simp at h
              have hx : xs' = [] := List.eq_nil_of_length_eq_zero hx0
              subst hx
              obtain rfl : n = 0 := by simpa using e3
              refine key [] (by simp) (fun i x hi => by simp at hi) ?_
              have := run_append_nil (P := P) w t ty te inf z g1 g2 g5 ad ys.length cap2 ncells (by rw [g3]; exact hnl) (q.cell ad rfl) hylen (by omega) (by rw [g4]; simp only [Nat.zero_add] at hby; omega)
              simpa using this
            · obtain ⟨ad', rfl⟩ := Option.ne_none_iff_exists'.1 hn0
              have hA : n = 0 ∨ ∃ blk cur, A = some ⟨blk, 0, none⟩ ∧ ad' = ⟨blk, 0, none⟩ ∧ w.heap[blk]? = some (.cells cur te (0, 0)) ∧ cur.size = xs'.length * e'.cells ∧ rawRep w g.F e' xs' cur.toList := by
                by_cases hn : n = 0
                · exact .inl hn
                · obtain ⟨blk, cur, rfl, _, q1, q2, q3, q4, q5⟩ := raw_cells (R.obj id _ ho).2 e1 (lo := 0) (n := n) (by omega) (by omega)
                  refine .inr ⟨blk, cur, rfl, ?_, q1, q3, q4⟩
                  rcases e5 with h | h
                  · omega
                  · simpa [Addr.add] using h
              rcases hA with rfl | ⟨blk, cur, rfl, rfl, q1, q3, q4⟩
              · refine key [] (by simp) (fun i x hi => by simp at hi) ?_
                have := run_append_grow (P := P) w t ty te inf z g1 g2 g5 ad' 0 xs'.length [] (by simp) (fun j v h => by simp at h) ad ys.length cap2 ncells (by rw [g3]; exact hnl) (q.cell ad rfl) (by omega) h63 (growslice_fits (by omega) (by rw [g4]; exact hby))
                simpa using this
              · have hnx : n * e'.cells ≤ xs'.length * e'.cells := mul_len e3
                have hol : (cur.toList.take (n * e'.cells)).length = n * e'.cells := by simp; omega
                refine key (cur.toList.take (n * e'.cells)) hol (rawRep_take q4 n) ?_
                exact run_append_grow (P := P) w t ty te inf z g1 g2 g5 ⟨blk, 0, none⟩ n xs'.length _ (by rw [g3]; exact hol) (fun j v hj => by
                  have hjl : j < n * e'.cells := by have := (List.getElem?_eq_some_iff.1 hj).1; omega
                  rw [List.getElem?_take_of_lt hjl] at hj
                  rw [add0, cell_of_row w blk _ _ _ _ q1]; simpa using hj) ad ys.length cap2 ncells (by rw [g3]; exact hnl) (q.cell ad rfl) hgrow h63 (growslice_fits (by omega) (by rw [g4]; exact hby))
      · exact hs.elim
    · exact hs.elim
  · exact hs.elim

theorem appendS_sound (hT : TabOk P T) (R : RelH C h w g) (hf : FreshIds g fresh) {t ty : TypeId} {s a : V} {sx x : Value} {K : V → Heap → Prop} (hs : appendS T t s a h K)
    (hsv : RV C w g s sx) (ha : RV C w g a x) : ∃ val w' g' v h', (Builtin.append_ #[t, t] ty #[sx, x]).run P w = .ok val w' ∧ K v h' ∧ WRes C w g fresh v h' val w' g' := by
  unfold appendS at hs
  split at hs
  · rename_i te e bytes zero id he
    obtain ⟨inf, z, g1, g2, g3, g4, g5, g6, g7, g8, g9⟩ := elem_of hT he
    split at hs
    · rename_i te' e' xs' ho
      split at hs
      · rename_i xs c1 ys hbt hcast hrows
        obtain rfl := Nat.eq_of_beq_eq_true hbt
        obtain ⟨rfl, hxs⟩ := castL_eq hcast
        simp at hxs
        subst hxs
        obtain ⟨hc1, hs⟩ := conj_out' hs
        obtain ⟨hc2, hs⟩ := conj_out' hs
        have hx0 : 0 < xs'.length := hc2 _ List.mem_cons_self
        have hy0 : 0 < ys.length := hc2 _ (List.mem_cons_of_mem _ List.mem_cons_self)
        have hby : (xs'.length + ys.length) * bytes ≤ 140737488355328 := hc2 _ (List.mem_cons_of_mem _ (List.mem_cons_of_mem _ List.mem_cons_self))
        have hmx : xs'.length + ys.length ≤ maxLen := hc2 _ (List.mem_cons_of_mem _ (List.mem_cons_of_mem _ (List.mem_cons_of_mem _ List.mem_cons_self)))
        obtain ⟨A2, cap2, ncells, q⟩ := rowsOf_sound R hrows hc1 ha
        simp only [RV] at hsv
        obtain ⟨hU, rfl, hsl⟩ := hsv
        obtain ⟨cells, k1, k2, k3, k4⟩ := (R.obj id _ ho).2
        rcases k1.2 with ⟨hnil, hn0⟩ | ⟨gg, cp, cur, hval, _, hheap, hncap, hcm, hcs, htake⟩
        · omega
        obtain ⟨ad, rfl⟩ : ∃ ad, A2 = some ad := by
          cases A2 with
          | none => have := q.nil rfl; have := q.le; omega
          | some ad => exact ⟨ad, rfl⟩
        have hnl := reps_len _ _ _ q.rows
        have hcl := reps_len _ _ _ k2
        have hmut := k4 gg (by rw [hval]; rfl)
        have hlt : gg < w.heap.size := (Array.getElem?_eq_some_iff.1 hheap).1
        by_cases hroom : xs'.length + ys.length ≤ cp
        · have hm1 := mul_len (k := e'.cells) hroom
          rw [Nat.add_mul] at hm1
          have hrun := run_append_room (P := P) w t ty te inf g1 g2 gg xs'.length cp cur hheap ad ys.length cap2 ncells (by rw [g3]; exact hnl) (q.cell ad rfl) (reps_one _ _ _ q.rows) hroom (by rw [g3, hnl, hcs]; omega)
          rw [g3, htake] at hrun
          generalize hcs' : cells ++ ncells ++ cur.toList.drop (xs'.length * e'.cells + ncells.length) = cs' at hrun
          have hh : (w.setRow gg cs'.toArray).heap[gg]? = some (.cells cs'.toArray te (0, 0)) := setRow_heap w gg _ _ te _ hheap
          have hFm : ∀ b, g.F b → (g.F b ∨ b = gg) ∧ (w.setRow gg cs'.toArray).heap[b]? = w.heap[b]? := fun b hb => ⟨.inl hb, setRow_other w gg b _ (fun hbg => hmut.2 (hbg ▸ hb))⟩
          have hcell : ∀ (j : Nat) (u : Value), (cells ++ ncells)[j]? = some u → (w.setRow gg cs'.toArray).cell? ((⟨gg, 0, none⟩ : Addr).add j) = some u := fun j u hu => by
            rw [add0]
            simp only [World.cell?, hh, Option.isSome_none, Bool.false_eq_true, if_false]
            have hj : j < (cells ++ ncells).length := (List.getElem?_eq_some_iff.1 hu).1
            rw [← hcs', List.getElem?_toArray, List.getElem?_append_left hj]; exact hu
          obtain ⟨R', ev⟩ := R.turn (o' := .ice e' xs') (w' := w.setRow gg cs'.toArray) ho rfl rfl (blk := gg) (by rw [hval]; rfl) (fun b hb => setRow_other w gg b _ hb) (by simp [World.setRow]) rfl rfl rfl (by
            simp only [RO]
            rw [hval]
            exact rep_of_rows (reps_mono hFm e' _ _ k2) (.inr rfl) hncap hcm (fun j u hu => hcell j u (by
              rw [List.getElem?_append_left (List.getElem?_eq_some_iff.1 hu).1]; exact hu)))
          refine ⟨_, _, _, _, _, by rw [hval, q.val]; exact hrun, hs.out, R', ev, ?_, fun id h => .inl h⟩
          simp only [RV]
          have := rep_of_rows (cap := cp) (reps_append e' _ _ _ _ (reps_mono hFm e' _ _ k2) (reps_mono hFm e' _ _ q.rows)) (.inr rfl : (fun b => g.F b ∨ b = gg) (⟨gg, 0, none⟩ : Addr).block) (by rw [List.length_append]; exact hroom) hcm hcell
          rw [List.length_append] at this
          exact this
        · have h63 : ((xs'.length + ys.length : Nat) : Int) ≤ 9223372036854775807 := by simp only [maxLen] at hmx; omega
          have hge := grownCap_ge w (xs'.length + ys.length) cp te
          have hcm2 := grownCap_le_maxLen w (xs'.length + ys.length) cp te hmx
          have holdc : ∀ (j : Nat) (u : Value), cells[j]? = some u → w.cell? ((⟨gg, 0, none⟩ : Addr).add j) = some u := fun j u hu => by
            rw [add0]
            simp only [World.cell?, hheap, Option.isSome_none, Bool.false_eq_true, if_false]
            have hj : j < xs'.length * e'.cells := by have := (List.getElem?_eq_some_iff.1 hu).1; omega
            rw [← htake, List.getElem?_take_of_lt hj, Array.getElem?_toList] at hu
            exact hu
          have hrun := run_append_grow (P := P) (ty := ty) w t te inf z g1 g2 g5 ⟨gg, 0, none⟩ xs'.length cp cells (by rw [g3]; exact hcl) holdc ad ys.length cap2 ncells (by rw [g3]; exact hnl) (q.cell ad rfl) (by omega) h63 (growslice_fits (by omega) (by rw [g4]; exact hby))
          generalize hcells : cells.toArray ++ ncells.toArray ++ Builtin.zeroCells z.cells (grownCap w (xs'.length + ys.length) cp te - (xs'.length + ys.length)) = ncur at hrun
          have hb : Below w.heap.size w (w.drew.alloc (.cells ncur te)) := (Below.refl _ _ |>.drew).alloc (by simp) _
          have hnew : (w.drew.alloc (.cells ncur te)).heap[w.heap.size]? = some (.cells ncur te) := heap_alloc_new w.drew _
          obtain ⟨R1, ev1⟩ := R.freeze ho
          have hFm : ∀ b, g.F b → ((g.F b ∨ ablk (g.anch id) = some b) ∨ b = w.heap.size) ∧ (w.drew.alloc (.cells ncur te)).heap[b]? = w.heap[b]? := fun b hb' => ⟨.inl (.inl hb'), hb.block b (R.F b hb')⟩
          have hv : rep (w.drew.alloc (.cells ncur te)) (fun b => (g.F b ∨ ablk (g.anch id) = some b) ∨ b = w.heap.size) (.slice e') (xs' ++ ys) [.slice (some ⟨w.heap.size, 0, none⟩) (xs'.length + ys.length) (grownCap w (xs'.length + ys.length) cp te)] := by
            have := rep_of_rows (a := ⟨w.heap.size, 0, none⟩) (cap := grownCap w (xs'.length + ys.length) cp te) (reps_append e' _ _ _ _ (reps_mono hFm e' _ _ k2) (reps_mono hFm e' _ _ q.rows)) (.inr rfl : (fun b => (g.F b ∨ ablk (g.anch id) = some b) ∨ b = w.heap.size) (⟨w.heap.size, 0, none⟩ : Addr).block) (by rw [List.length_append]; exact hge) hcm2 (fun j u hu => by
              rw [add0]
              simp only [World.cell?, hnew, Option.isSome_none, Bool.false_eq_true, if_false]
              have hj : j < (cells ++ ncells).length := (List.getElem?_eq_some_iff.1 hu).1
              rw [← hcells, Array.getElem?_append_left (by simpa using hj)]
              simpa using hu)
            rw [List.length_append] at this
            exact this
          have qq : QRes C w ⟨g.anch, fun b => g.F b ∨ ablk (g.anch id) = some b, g.U⟩ fresh (.sl e' (xs' ++ ys)) [] (.slice (some ⟨w.heap.size, 0, none⟩) (xs'.length + ys.length) (grownCap w (xs'.length + ys.length) cp te)) (w.drew.alloc (.cells ncur te)) ⟨g.anch, fun b => (g.F b ∨ ablk (g.anch id) = some b) ∨ b = w.heap.size, g.U⟩ :=
            ⟨hb, fun b h => .inl h, fun b h => h.elim .inl fun h => .inr (by rw [h]; exact ⟨Nat.le_refl _, by simp⟩), fun id h => ⟨h, rfl⟩, fun id h => .inl h, by simp only [RV]; exact hv, fun _ _ h => by simp [lookN] at h, fun _ _ _ _ _ h => by simp [lookN] at h⟩
          refine ⟨_, _, _, _, _, by rw [hval, q.val]; exact hrun, hs.out, R1.quiet qq, ev1.trans (qq.evo R1.F), qq.val, qq.U⟩
      · exact hs.elim
    · exact hs.elim
  · exact hs.elim

theorem run_firstCells_list {size n : Nat} {A : Option Addr} {c : Nat} {cs : List Value} (hl : cs.length = n * size) (hA : A = none → cs = []) (hcell : ∀ ad, A = some ad → ∀ (j : Nat) (u : Value), cs[j]? = some u → w.cell? (ad.add j) = some u) :
    (Builtin.firstCells size n (.slice A n c)).run P w = .ok cs.toArray w := by
  cases A with
  | none => rw [hA rfl]; simp [Builtin.firstCells]
  | some ad =>
    have := run_loadCells_list (P := P) w ad cs (hcell ad rfl)
    rw [hl] at this
    simp [Builtin.firstCells, this]
theorem appendZR_sound (hT : TabOk P T) (R : RelH C h w g) (hf : FreshIds g fresh) {t tn ty : TypeId} {s a : V} {sx x : Value} {K : V → Heap → Prop} (hs : appendZR T t tn s a fresh h K)
    (hsv : RV C w g s sx) (ha : RV C w g a x) : ∃ val w' g' v h', (Builtin.append_ #[t, tn] ty #[sx, x]).run P w = .ok val w' ∧ K v h' ∧ WRes C w g fresh v h' val w' g' := by
  unfold appendZR at hs
  split at hs
  · rename_i te e bytes zero id e0 lo n kk k q5 q6 q7 q8 q9 q10 he hti
    obtain ⟨inf, z, g1, g2, g3, g4, g5, g6, g7, g8, g9⟩ := elem_of hT he
    obtain ⟨inf2, u2, z2, k1, k2, k3, k4, k5, k6⟩ := ti_of hT hti
    obtain rfl := und_int k4
    split at hs
    · rename_i te' e' xs' ho
      split at hs
      · rename_i xs heq zd hbt hlo hcast _ hzd
        subst heq
        obtain rfl := Nat.eq_of_beq_eq_true hbt
        obtain rfl := Nat.eq_of_beq_eq_true hlo
        obtain ⟨rfl, hxs⟩ := castO_eq hcast
        simp at hxs
        subst hxs
        have hrep := zeroD_rep R g6 hzd
        obtain ⟨hc, hs⟩ := conj_out' hs
        have c1 : 0 < k := hc _ (by simp)
        have c2 : (xs'.length : Int) < n + k := hc _ (by simp)
        have c3 : (n + k) * (bytes : Int) ≤ 140737488355328 := hc _ (by simp)
        have c4 : n + k ≤ (maxLen : Int) := hc _ (by simp)
        obtain ⟨m, rfl⟩ := Int.eq_ofNat_of_zero_le (Int.le_of_lt c1)
        simp only [Int.toNat_natCast] at hs
        simp only [RV] at hsv ha
        obtain ⟨hU, A, m0, c0, A', c', e1, e6, e7, rfl, e2, e3, e4, e5⟩ := hsv
        obtain ⟨rfl, _⟩ := ha
        have e4 := e4 trivial
        rw [Nat.zero_add] at e4
        subst e4
        obtain ⟨rfl, hm0⟩ := raw_cap (R.obj id _ ho).2 e1
        have hby : (n + m) * bytes ≤ 140737488355328 := by
          have : (((n + m) * bytes : Nat) : Int) ≤ 140737488355328 := by push_cast; exact c3
          omega
        have hmx : n + m ≤ maxLen := by omega
        have hge := grownCap_ge w (n + m) xs'.length te
        have hcm := grownCap_le_maxLen w (n + m) xs'.length te hmx
        have h63 : ((n + m : Nat) : Int) ≤ 9223372036854775807 := by simp only [maxLen] at hmx; omega
        obtain ⟨olds, hol, hor, hA, hcell⟩ : ∃ olds : List Value, olds.length = n * e'.cells ∧ rawRep w g.F e' (xs'.take n) olds ∧ (A' = none → olds = []) ∧ (∀ ad, A' = some ad → ∀ (j : Nat) (u : Value), olds[j]? = some u → w.cell? (ad.add j) = some u) := by
          by_cases hn : n = 0
          · subst hn
            exact ⟨[], by simp, fun i x hi => by simp at hi, fun _ => rfl, fun _ _ _ _ h => by simp at h⟩
          · obtain ⟨blk, cur, rfl, _, q1, q2, q3, q4, q5⟩ := raw_cells (R.obj id _ ho).2 e1 (lo := 0) (n := n) (by omega) (by omega)
            have hA' : A' = some ⟨blk, 0, none⟩ := by
              rcases e5 with h | h
              · omega
              · simpa [Addr.add] using h
            have hnx : n * e'.cells ≤ xs'.length * e'.cells := mul_len e3
            refine ⟨cur.toList.take (n * e'.cells), by simp; omega, rawRep_take q4 n, fun h => by rw [hA'] at h; simp at h, fun ad had j v hj => ?_⟩
            rw [hA'] at had
            simp at had
            subst had
            have hjl : j < n * e'.cells := by have := (List.getElem?_eq_some_iff.1 hj).1; simp at this; omega
            rw [List.getElem?_take_of_lt hjl] at hj
            rw [add0, cell_of_row w blk _ _ _ _ q1]; simpa using hj
        have hrun := Lib.run_append_grow_zeros (P := P) w t tn ty te inf z kk q5 g1 k2 g2 g5 A' n xs'.length olds (by
          rw [g3]
          exact run_firstCells_list hol hA (fun ad had j u hu => hcell ad had j u hu)) m (by omega) (by omega) (by omega) h63 (by
          rw [g4]
          have : m * bytes ≤ (n + m) * bytes := mul_len (by omega)
          omega) (growslice_fits (by omega) (by rw [g4]; exact hby))
        have hlen : (xs'.take n ++ List.replicate m (some zd) ++ List.replicate (grownCap w (n + m) xs'.length te - (n + m)) none).length = grownCap w (n + m) xs'.length te := by
          simp; omega
        have hzl : (Builtin.zeroCells z.cells m).toList.length = m * e'.cells := by rw [zeroCells_eq, repL_len]; simp [g8]
        have hrr : rawRep w g.F e' (xs'.take n ++ List.replicate m (some zd) ++ List.replicate (grownCap w (n + m) xs'.length te - (n + m)) none)
            (olds.toArray ++ Builtin.zeroCells z.cells m ++ Builtin.zeroCells z.cells (grownCap w (n + m) xs'.length te - (n + m))).toList := by
          simp only [Array.toList_append]
          refine rawRep_append (rawRep_append hor (by rw [hol, List.length_take, Nat.min_eq_left (by omega)]) ?_) ?_ (rawRep_none _ _)
          · have := rawRep_some (reps_replicate hrep m)
            rw [zeroCells_eq]
            simpa using this
          · rw [List.length_append, List.length_append, List.length_replicate, List.length_take, Nat.min_eq_left (by omega), Nat.add_mul, ← hzl]
            simp [hol]
        obtain ⟨g', hW⟩ := R.newRaw hf (te := te) g7 (n := n + m) (wd := w.drew) (Below.refl _ _ |>.drew) rfl (by
          rw [hlen]
          simp only [Array.size_append, List.size_toArray, size_zeroCells, g8, hol, ← Nat.add_mul]
          congr 1; omega) (by rw [hlen]; exact hcm) (by rw [hlen]; exact hge) hrr
        rw [hlen] at hW
        exact ⟨_, _, g', _, _, hrun, (hs _ (by omega)).out, hW⟩
      · exact hs.elim
    · exact hs.elim
  · rename_i te e bytes zero kk k q5 q6 q7 q8 q9 q10 he hti
    obtain ⟨inf, z, g1, g2, g3, g4, g5, g6, g7, g8, g9⟩ := elem_of hT he
    obtain ⟨inf2, u2, z2, k1, k2, k3, k4, k5, k6⟩ := ti_of hT hti
    obtain rfl := und_int k4
    split at hs
    · rename_i zd hzd
      have hrep := zeroD_rep R g6 hzd
      obtain ⟨hc, hs⟩ := conj_out' hs
      have c1 : 0 < k := hc _ (by simp)
      have c3 : k * (bytes : Int) ≤ 140737488355328 := hc _ (by simp)
      have c4 : k ≤ (maxLen : Int) := hc _ (by simp)
      obtain ⟨m, rfl⟩ := Int.eq_ofNat_of_zero_le (Int.le_of_lt c1)
      simp only [Int.toNat_natCast] at hs
      simp only [RV] at hsv ha
      subst hsv
      obtain ⟨rfl, _⟩ := ha
      have hby : (0 + m) * bytes ≤ 140737488355328 := by
        rw [Nat.zero_add]
        have : ((m * bytes : Nat) : Int) ≤ 140737488355328 := by push_cast; exact c3
        omega
      have hmx : 0 + m ≤ maxLen := by omega
      have hge := grownCap_ge w (0 + m) 0 te
      have hcm := grownCap_le_maxLen w (0 + m) 0 te hmx
      have h63 : ((0 + m : Nat) : Int) ≤ 9223372036854775807 := by simp only [maxLen] at hmx; omega
      have hrun := Lib.run_append_grow_zeros (P := P) w t tn ty te inf z kk q5 g1 k2 g2 g5 none 0 0 [] (by
        rw [g3]
        exact run_firstCells_list (by simp) (fun _ => rfl) (fun _ h => by cases h)) m (by omega) (by omega) (by omega) h63 (by
        rw [g4]
        rw [Nat.zero_add] at hby
        omega) (growslice_fits (by omega) (by rw [g4]; exact hby))
      simp only [Nat.zero_add] at hrun hge hcm
      have hzl : (Builtin.zeroCells z.cells m).toList.length = m * e.cells := by rw [zeroCells_eq, repL_len]; simp [g8]
      have hb : Below w.heap.size w (w.drew.alloc (.cells ((#[] : Array Value) ++ Builtin.zeroCells z.cells m ++ Builtin.zeroCells z.cells (grownCap w m 0 te - m)) te)) := (Below.refl _ _ |>.drew).alloc (Nat.le_refl _) _
      have hown : (w.drew.alloc (.cells ((#[] : Array Value) ++ Builtin.zeroCells z.cells m ++ Builtin.zeroCells z.cells (grownCap w m 0 te - m)) te)).ownsRow w.heap.size te e.cells (.slice (some ⟨w.heap.size, 0, none⟩) m (grownCap w m 0 te)) (List.replicate m zd).length (repL z.cells.toList m) := by
        rw [List.length_replicate]
        refine ⟨by rw [repL_len]; simp [g8], .inr ⟨w.heap.size, _, _, rfl, Nat.le_refl _, heap_alloc_new w.drew _, hge, hcm, ?_, ?_⟩⟩
        · rw [Array.size_append, Array.size_append, size_zeroCells, size_zeroCells, g8]
          rw [show (#[] : Array Value).size = 0 from rfl, Nat.zero_add, ← Nat.add_mul]
          congr 1; omega
        · simp only [Array.toList_append, List.nil_append]
          rw [List.take_left' hzl, zeroCells_eq]
      exact ⟨_, _, _, _, _, hrun, hs.out, (QRes.arr (fresh := fresh) (xs := List.replicate m zd) R (hf fresh (Nat.le_refl _) (by omega)) hb hown (reps_replicate hrep m) g7 ⟨_, _, _, rfl⟩).wres R⟩
    · exact hs.elim
  · exact hs.elim

theorem mapT_of (hT : TabOk P T) {t : TypeId} {k e : Ty} {zv : V} (h : mapT T t = some (k, e, zv)) :
    ∃ tk te kd, P.underlying t = some (.map tk te) ∧ P.underlying tk = some kd ∧ (∀ w : World, (zeroValue te).run P w = .ok (.bool false) w) ∧ e = .bool ∧ zv = .bl false ∧ ((∃ q, k = .int q ∧ kd = .int q) ∨ (k = .str ∧ kd = .string)) := by
  unfold mapT at h
  split at h
  · rename_i tk te _ _ _ _ hti
    obtain ⟨inf, u, z, g1, g2, g3, g4, g5, g6, g7, g8, g9⟩ := ti_of hT hti
    have hu : u = .map tk te := by
      cases u <;> simp [tdOf] at g4
      obtain ⟨rfl, rfl⟩ := g4; rfl
    subst hu
    have hz : ∀ w : World, (zeroValue te).run P w = .ok (.bool false) w := fun w => by
      simp only [eqOf] at g9
      split at g9
      · rename_i i hi
        split at g9
        · rename_i hzz
          simp [zeroValue, typeInfo, hi, hzz]
        · simp at g9
      · simp at g9
    split at h
    · rename_i dk _ _ _ _ _ hk
      obtain ⟨infk, uk, zk, k1, k2, k3, k4, k5⟩ := ti_of hT hk
      split at h
      · simp only [Option.some.injEq, Prod.mk.injEq] at h
        obtain ⟨rfl, rfl, rfl⟩ := h
        obtain rfl := und_int k4
        exact ⟨tk, te, _, g2, k2, hz, rfl, rfl, .inl ⟨_, rfl, rfl⟩⟩
      · simp only [Option.some.injEq, Prod.mk.injEq] at h
        obtain ⟨rfl, rfl, rfl⟩ := h
        obtain rfl := und_str k4
        exact ⟨tk, te, _, g2, k2, hz, rfl, rfl, .inr ⟨rfl, rfl⟩⟩
      · simp at h
    · simp at h
  · simp at h
theorem keyV_rel {k : Ty} {v : V} {a : k.den} {x : Value} (hs : keyV k v = some a) (hv : RV C w g v x) : keyRep k a x := by
  unfold keyV at hs
  split at hs
  · rename_i q n
    split at hs
    · rename_i q'
      split at hs
      · rename_i hq
        subst hq
        simp only [Option.some.injEq] at hs
        subst hs
        simp only [RV] at hv
        exact hv
      · simp at hs
    · simp at hs
  · split at hs
    · simp only [Option.some.injEq] at hs
      subst hs
      simp only [RV] at hv
      exact hv
    · simp at hs
  · simp at hs
theorem str_beq (a b : List UInt8) : ((⟨⟨a⟩⟩ : ByteArray) == ⟨⟨b⟩⟩) = (a == b) := by
  have : ((⟨⟨a⟩⟩ : ByteArray) == ⟨⟨b⟩⟩) = ((⟨a⟩ : Array UInt8) == ⟨b⟩) := rfl
  rw [this]
  simp
theorem sameNow_rep {k : Ty} {kd : TypeDesc} (hk : (∃ q, k = .int q ∧ kd = .int q) ∨ (k = .str ∧ kd = .string)) {a b : k.den} {x y : Value} (hx : keyRep k a x) (hy : keyRep k b y) : Instr.sameNow kd x y = some (keyEq k a b) ∧ (keyEq k a b = true → x = y) := by
  rcases hk with ⟨q, rfl, rfl⟩ | ⟨rfl, rfl⟩
  · simp only [keyRep] at hx hy
    obtain ⟨rfl, _⟩ := hx
    obtain ⟨rfl, _⟩ := hy
    refine ⟨by simp [Instr.sameNow, keyEq], fun h => ?_⟩
    simp only [keyEq, beq_iff_eq] at h
    rw [h]
  · simp only [keyRep] at hx hy
    obtain ⟨rfl, _⟩ := hx
    obtain ⟨rfl, _⟩ := hy
    refine ⟨by simp only [Instr.sameNow, keyEq, str_beq], fun h => ?_⟩
    simp only [keyEq, beq_iff_eq] at h
    rw [h]
structure Found (k e : Ty) (w : World) (F : Nat → Prop) (a : k.den) (kv : Value) (l : List (k.den × e.den)) (es : List MapEntry) (i : Nat) (r : Option (Nat × Value)) : Prop where
  get : ∀ d, match r with
    | none => mapGet k a d l = d ∧ mapHas k a l = false
    | some (_, v) => rep w F e (mapGet k a d l) [v] ∧ mapHas k a l = true
  at_ : ∀ j v, r = some (j, v) → i ≤ j ∧ ∃ en, es[j - i]? = some en ∧ en.key = kv
  put : ∀ (v : e.den) (val : Value), rep w F e v [val] → match r with
    | none => ∀ born, mapRep k e w F (mapPut k a v l) (es ++ [{ key := kv, val, born }])
    | some (j, _) => mapRep k e w F (mapPut k a v l) (es.modify (j - i) fun en => { en with key := kv, val })
  del : match r with
    | none => mapDel k a l = l
    | some (j, _) => mapRep k e w F (mapDel k a l) (es.eraseIdx (j - i))
  new : r = none → ∀ en ∈ es, en.key ≠ kv
theorem keyRep_inj {k : Ty} {kd : TypeDesc} (hk : (∃ q, k = .int q ∧ kd = .int q) ∨ (k = .str ∧ kd = .string)) {a b : k.den} {x : Value} (ha : keyRep k a x) (hb : keyRep k b x) : keyEq k a b = true := by
  rcases hk with ⟨q, rfl, rfl⟩ | ⟨rfl, rfl⟩
  · simp only [keyRep] at ha hb
    obtain ⟨rfl, _⟩ := ha
    have := hb.1
    simp only [Value.int.injEq, true_and] at this
    simp [keyEq, this]
  · simp only [keyRep] at ha hb
    obtain ⟨rfl, _⟩ := ha
    have := hb.1
    simp only [Value.string.injEq, ByteArray.mk.injEq, Array.mk.injEq] at this
    simp [keyEq, this]
theorem find_rep {k e : Ty} {kd : TypeDesc} (hk : (∃ q, k = .int q ∧ kd = .int q) ∨ (k = .str ∧ kd = .string)) {F : Nat → Prop} {a : k.den} {kv : Value} (ha : keyRep k a kv) : ∀ (l : List (k.den × e.den)) (es : List MapEntry) (i : Nat), mapRep k e w F l es →
    ∃ r, Instr.findNow kd kv es i = some r ∧ Found k e w F a kv l es i r
  | [], es, i, h => by
    simp only [mapRep] at h
    subst h
    refine ⟨none, rfl, ⟨fun d => ⟨rfl, rfl⟩, fun j v h => by simp at h, fun v val hv born => ?_, rfl, fun _ en hen => by simp at hen⟩⟩
    exact ⟨_, [], rfl, ha, hv, rfl⟩
  | (b, v) :: r, es, i, h => by
    simp only [mapRep] at h
    obtain ⟨x, xs, rfl, h1, h2, h3⟩ := h
    obtain ⟨hs, he⟩ := sameNow_rep hk ha h1
    cases hq : keyEq k a b
    · obtain ⟨r', hr1, hr2⟩ := find_rep hk ha r xs (i + 1) h3
      refine ⟨r', by simp [Instr.findNow, hs, hq, hr1], ?_⟩
      cases r' with
      | none =>
        refine ⟨fun d => ?_, fun j v h => by simp at h, fun v' val hv born => ?_, ?_, fun _ en hen => ?_⟩
        rotate_right
        · rcases List.mem_cons.1 hen with rfl | hen
          · intro hc
            rw [hc] at h1
            have := keyRep_inj hk ha h1
            rw [hq] at this; cases this
          · exact hr2.new rfl en hen
        · have := hr2.get d
          simp only [mapGet, mapHas, hq, Bool.false_eq_true, if_false, Bool.false_or]
          exact this
        · have := hr2.put v' val hv born
          simp only [mapPut, hq, Bool.false_eq_true, if_false]
          exact ⟨x, _, rfl, h1, h2, this⟩
        · have := hr2.del
          simp only [mapDel, hq, Bool.false_eq_true, if_false]
          simp only at this
          rw [this]
      | some p =>
        obtain ⟨j, u⟩ := p
        obtain ⟨hj, en, hen1, hen2⟩ := hr2.at_ j u rfl
        have hji : j - i = (j - (i + 1)) + 1 := by omega
        refine ⟨fun d => ?_, fun j' v' h => ?_, fun v' val hv => ?_, ?_, fun h => by cases h⟩
        · have := hr2.get d
          simp only [mapGet, mapHas, hq, Bool.false_eq_true, if_false, Bool.false_or]
          exact this
        · simp only [Option.some.injEq, Prod.mk.injEq] at h
          obtain ⟨rfl, rfl⟩ := h
          exact ⟨by omega, en, by rw [hji]; simpa using hen1, hen2⟩
        · have := hr2.put v' val hv
          simp only [mapPut, hq, Bool.false_eq_true, if_false]
          simp only at this
          rw [hji]
          exact ⟨x, _, rfl, h1, h2, this⟩
        · have := hr2.del
          simp only [mapDel, hq, Bool.false_eq_true, if_false]
          simp only at this
          rw [hji]
          exact ⟨x, _, rfl, h1, h2, this⟩
    · have hkv := he hq
      refine ⟨some (i, x.val), by simp [Instr.findNow, hs, hq], ⟨fun d => ?_, fun j v' h => ?_, fun v' val hv => ?_, ?_, fun h => by cases h⟩⟩
      · simp only [mapGet, mapHas, hq, if_true, Bool.true_or, and_true]
        exact h2
      · simp only [Option.some.injEq, Prod.mk.injEq] at h
        obtain ⟨rfl, rfl⟩ := h
        exact ⟨Nat.le_refl _, x, by simp, hkv.symm⟩
      · simp only [mapPut, hq, if_true, Nat.sub_self]
        exact ⟨_, xs, rfl, ha, hv, h3⟩
      · simp only [mapDel, hq, if_true, Nat.sub_self]
        exact h3
theorem checkKey_succ {kd : TypeDesc} {tk : TypeId} (hu : P.underlying tk = some kd) (hk : (∃ q, kd = .int q) ∨ kd = .string) (b : Bool) (n : Nat) (x : Value) : (Instr.checkKey b (n + 1) tk x).run P w = .ok () w := by
  rw [Instr.checkKey.eq_2]
  rcases hk with ⟨q, rfl⟩ | rfl <;> simp only [Sem.run_bind, run_underlying hu, Result.andThen_ok] <;> rfl
theorem run_checkKey {kd : TypeDesc} {tk : TypeId} (hu : P.underlying tk = some kd) (hk : (∃ q, kd = .int q) ∨ kd = .string) (b : Bool) (x : Value) : (Instr.checkKey b 10000 tk x).run P w = .ok () w := checkKey_succ hu hk b 9999 x

theorem gom {r : Nat} {es : Array MapEntry} {clock : Nat} (hb : w.heap[r]? = some (.map es clock)) : (getObj r).run P w = .ok (.map es clock) w := by
  simp [getObj, Sem.run, hb]
theorem som {r : Nat} {es : Array MapEntry} {clock : Nat} (o : Go.Obj) (hb : w.heap[r]? = some (.map es clock)) : (Go.setObj r o).run P w = .ok () { w with heap := w.heap.setIfInBounds r o } := by
  simp [Go.setObj, Sem.run, hb]
theorem mp_obj (R : RelH C h w g) {id : Nat} {k e : Ty} {l : List (k.den × e.den)} (ho : lookN h id = some (.map k e l)) {x : Value} (hx : RV C w g (.mp id) x) :
    ∃ blk es clock, g.anch id = .map (some blk) ∧ x = .map (some blk) ∧ w.heap[blk]? = some (.map es clock) ∧ mapRep k e w g.F l es.toList ∧ MutOk C g blk ∧ Go.MapKept.Stamped es clock := by
  obtain ⟨blk, es, clock, h1, h2, h3, hst, h4⟩ := (R.obj id _ ho).2
  simp only [RV] at hx
  obtain ⟨_, rfl, _⟩ := hx
  exact ⟨blk, es, clock, h1, h1, h2, h3, h4, hst⟩
theorem lookupV_sound (hT : TabOk P T) (R : RelH C h w g) {t : TypeId} {m ix v : V} {x y : Value} {ok : Bool} {c : List Prop} {news : Heap} (hs : lookupV T t m ix ok h = some (c, v, news)) (hm : RV C w g m x) (hi : RV C w g ix y) :
    news = [] ∧ ∃ val, (Instr.lookup t x y ok).run P w = .ok val w ∧ RV C w g v val := by
  unfold lookupV at hs
  split at hs
  · rename_i k z id hmt
    obtain ⟨tk, te, kd, g1, g2, g3, _, g5, g6⟩ := mapT_of hT hmt
    simp only [V.bl.injEq] at g5
    subst g5
    split at hs
    · rename_i k' e' l' a ho hkv
      split at hs
      · rename_i l hcast
        obtain ⟨rfl, rfl, hl⟩ := castM_eq hcast
        simp at hl
        subst hl
        obtain ⟨blk, es, clock, h1, rfl, h2, h3, _⟩ := mp_obj R ho hm
        have hkr := keyV_rel hkv hi
        obtain ⟨r, hr, hF⟩ := find_rep g6 hkr l' es.toList 0 h3
        have hck := run_checkKey (P := P) (w := w) g2 (by rcases g6 with ⟨q, _, h⟩ | ⟨_, h⟩; exact .inl ⟨q, h⟩; exact .inr h) es.isEmpty y
        have hfk : (Instr.findKey tk y es.toList).run P w = .ok r w := by
          simp [Instr.findKey, run_underlying g2, hr]
        have hrun : ∃ b, (Instr.lookup t (.map (some blk)) y ok).run P w = .ok (if ok then .tuple #[.bool (mapGet k' a false l'), .bool b] else .bool (mapGet k' a false l')) w ∧ b = mapHas k' a l' := by
          have hg := hF.get (false : Ty.bool.den)
          cases r with
          | none =>
            refine ⟨false, ?_, hg.2.symm⟩
            rw [hg.1]
            simp [Instr.lookup, run_underlying g1, gom h2, hck, hfk, g3]
            try (cases ok <;> rfl)
          | some p =>
            obtain ⟨j, u⟩ := p
            simp only [rep] at hg
            obtain ⟨hu, hh⟩ := hg
            simp only [List.cons.injEq, and_true] at hu
            subst hu
            refine ⟨true, ?_, hh.symm⟩
            simp [Instr.lookup, run_underlying g1, gom h2, hck, hfk]
            try (cases ok <;> rfl)
        obtain ⟨b, hrun, rfl⟩ := hrun
        cases ok
        · simp only [Option.some.injEq, Prod.mk.injEq] at hs
          obtain ⟨rfl, rfl, rfl⟩ := hs
          exact ⟨rfl, _, hrun, by simp [RV]⟩
        · simp only [Option.some.injEq, Prod.mk.injEq] at hs
          obtain ⟨rfl, rfl, rfl⟩ := hs
          refine ⟨rfl, _, hrun, ?_⟩
          simp only [if_true, RV]
          exact ⟨[_, _], rfl, by simp [RVs, RV]⟩
      · simp at hs
    · simp at hs
  · simp at hs
theorem makeMapV_sound (hT : TabOk P T) (R : RelH C h w g) (hf : FreshIds g fresh) {t : TypeId} {v : V} {c : List Prop} {news : Heap} (hs : makeMapV T t fresh = some (c, v, news)) :
    ∃ val w' g', (Instr.makeMap t none).run P w = .ok val w' ∧ QRes C w g fresh v news val w' g' := by
  unfold makeMapV at hs
  split at hs
  · rename_i k e zv hmt
    simp only [Option.some.injEq, Prod.mk.injEq] at hs
    obtain ⟨rfl, rfl, rfl⟩ := hs
    have hU := hf fresh (Nat.le_refl _) (by omega)
    have hb : Below w.heap.size w (w.alloc (.map #[] 0)) := (Below.refl _ _).alloc (Nat.le_refl _) _
    refine ⟨_, _, g.new fresh (.map (some w.heap.size)), rfl, QRes.one (av := .map (some w.heap.size)) hU hb R.F ?_ ?_ (fun b hb' => by simp [ablk] at hb'; omega)⟩
    · simp only [RV]
      exact ⟨.inr rfl, (upd_same _ _ _).symm, _, rfl⟩
    · refine ⟨w.heap.size, #[], 0, upd_same _ _ _, heap_alloc_new w _, rfl, Go.MapKept.stamped_empty 0, .inr R.size, fun hF => ?_⟩
      have := R.F _ hF
      omega
  · simp at hs
theorem keyThatStays_same {k : Ty} {kd : TypeDesc} (hk : (∃ q, k = .int q ∧ kd = .int q) ∨ (k = .str ∧ kd = .string)) {a : k.den} {x : Value} (hx : keyRep k a x) : (Instr.keyThatStays x x).run P w = .ok x w := by
  have : Instr.sameBits 10000 x x = true := by
    rcases hk with ⟨q, rfl, rfl⟩ | ⟨rfl, rfl⟩
    · simp only [keyRep] at hx
      obtain ⟨rfl, _⟩ := hx
      simp [Instr.sameBits]
    · simp only [keyRep] at hx
      obtain ⟨rfl, _⟩ := hx
      simp only [Instr.sameBits, str_beq, beq_self_eq_true]
  simp [Instr.keyThatStays, this]
theorem RelH.setMap (R : RelH C h w g) {id blk : Nat} {k e : Ty} {l l' : List (k.den × e.den)} (ho : lookN h id = some (.map k e l)) (ha : g.anch id = .map (some blk)) {es : Array MapEntry} {clock : Nat} (hlt : blk < w.heap.size)
    (hr : mapRep k e w g.F l' es.toList) (hm : MutOk C g blk) (hst : Go.MapKept.Stamped es clock) : RelH C (setObj h id (.map k e l')) { w with heap := w.heap.setIfInBounds blk (.map es clock) } g ∧ Evo w g { w with heap := w.heap.setIfInBounds blk (.map es clock) } g := by
  refine R.write ho rfl rfl (blk := blk) (by rw [ha]; rfl) (fun b hb => by simp [Array.getElem?_setIfInBounds_ne (Ne.symm hb)]) (by simp) rfl rfl rfl (fun ev => ?_)
  exact ⟨blk, es, clock, ha, by simp [Array.getElem?_setIfInBounds_self_of_lt hlt], mapRep_mono ev.F hr, hst, hm⟩
theorem mapPutV_sound (hT : TabOk P T) (R : RelH C h w g) {t : TypeId} {m ix xv v : V} {x y u : Value} {c : List Prop} {h' : Heap} (hs : mapPutV T t m ix xv h = some (c, v, h')) (hm : RV C w g m x) (hi : RV C w g ix y) (hu : RV C w g xv u) :
    v = .any ∧ ∃ w' g', (Instr.mapUpdate t x y u).run P w = .ok () w' ∧ WRes C w g fresh v h' undef w' g' := by
  unfold mapPutV at hs
  split at hs
  · rename_i k zv id yb hmt hvb
    obtain ⟨tk, te, kd, g1, g2, g3, _, g5, g6⟩ := mapT_of hT hmt
    split at hs
    · rename_i k' e' l' a ho hkv
      split at hs
      · rename_i l hcast
        obtain ⟨rfl, rfl, hl⟩ := castM_eq hcast
        simp at hl
        subst hl
        simp only [Option.some.injEq, Prod.mk.injEq] at hs
        obtain ⟨rfl, rfl, rfl⟩ := hs
        obtain ⟨blk, es, clock, h1, rfl, h2, h3, h4, hst⟩ := mp_obj R ho hm
        have hkr := keyV_rel hkv hi
        have hur : rep w g.F Ty.bool yb [u] := by
          have := vbool_rel hvb hu
          subst this; rfl
        obtain ⟨r, hr, hF⟩ := find_rep g6 hkr l' es.toList 0 h3
        have hck := run_checkKey (P := P) (w := w) g2 (by rcases g6 with ⟨q, _, h⟩ | ⟨_, h⟩; exact .inl ⟨q, h⟩; exact .inr h) false y
        have hfk : (Instr.findKey tk y es.toList).run P w = .ok r w := by
          simp [Instr.findKey, run_underlying g2, hr]
        have hlt := (Array.getElem?_eq_some_iff.1 h2).1
        refine ⟨rfl, ?_⟩
        cases r with
        | none =>
          have hput := hF.put yb u hur clock
          obtain ⟨R', e'⟩ := R.setMap (l' := mapPut k' a yb l') ho h1 (es := es.push { key := y, val := u, born := clock }) (clock := clock + 1) hlt (by simpa using hput) h4 (Go.MapKept.stamped_push hst (hF.new rfl))
          refine ⟨_, g, ?_, R', e', by simp [RV], fun id h => .inl h⟩
          simp [Instr.mapUpdate, run_underlying g1, gom h2, hck, hfk, som _ h2]
        | some p =>
          obtain ⟨j, u0⟩ := p
          obtain ⟨_, en, hen, hkey⟩ := hF.at_ j u0 rfl
          have hput := hF.put yb u hur
          simp only [Nat.sub_zero] at hput hen
          have hen' : es[j]? = some en := by simpa using hen
          obtain ⟨R', e'⟩ := R.setMap (l' := mapPut k' a yb l') ho h1 (es := es.modify j fun e => { e with key := y, val := u }) (clock := clock) hlt (by simpa using hput) h4 (Go.MapKept.stamped_modify hst j _ (fun _ _ => rfl) (fun e _ he => by rw [hen'] at he; cases he; exact hkey.symm))
          refine ⟨_, g, ?_, R', e', by simp [RV], fun id h => .inl h⟩
          have hks := keyThatStays_same (P := P) (w := w) g6 hkr
          simp [Instr.mapUpdate, run_underlying g1, gom h2, hck, hfk, hen', hkey, hks, som _ h2]
      · simp at hs
    · simp at hs
  · simp at hs
theorem mapDelV_sound (hT : TabOk P T) (R : RelH C h w g) {t ty : TypeId} {ts : Array TypeId} {m ix v : V} {x y : Value} {c : List Prop} {h' : Heap} (hts : ts[0]? = some t) (hs : mapDelV T t m ix h = some (c, v, h')) (hm : RV C w g m x) (hi : RV C w g ix y) :
    ∃ val w' g', (Builtin.delete_ ts ty #[x, y]).run P w = .ok val w' ∧ WRes C w g fresh v h' val w' g' := by
  unfold mapDelV at hs
  split at hs
  · rename_i k zv id hmt
    obtain ⟨tk, te, kd, g1, g2, g3, _, g5, g6⟩ := mapT_of hT hmt
    split at hs
    · rename_i k' e' l' a ho hkv
      split at hs
      · rename_i l hcast
        obtain ⟨rfl, rfl, hl⟩ := castM_eq hcast
        simp at hl
        subst hl
        simp only [Option.some.injEq, Prod.mk.injEq] at hs
        obtain ⟨rfl, rfl, rfl⟩ := hs
        obtain ⟨blk, es, clock, h1, rfl, h2, h3, h4, hst⟩ := mp_obj R ho hm
        have hkr := keyV_rel hkv hi
        obtain ⟨r, hr, hF⟩ := find_rep g6 hkr l' es.toList 0 h3
        have hck := run_checkKey (P := P) (w := w) g2 (by rcases g6 with ⟨q, _, h⟩ | ⟨_, h⟩; exact .inl ⟨q, h⟩; exact .inr h) es.isEmpty y
        have hfk : (Instr.findKey tk y es.toList).run P w = .ok r w := by
          simp [Instr.findKey, run_underlying g2, hr]
        have hlt := (Array.getElem?_eq_some_iff.1 h2).1
        have hdel := hF.del
        have htup : ∀ w' : World, RV C w' g (.tup []) (.tuple #[]) := fun w' => by simp only [RV]; exact ⟨[], rfl, rfl⟩
        cases r with
        | none =>
          simp only at hdel
          obtain ⟨R', e'⟩ := R.setMap (l' := mapDel k' a l') ho h1 (es := es) (clock := clock) hlt (by rw [hdel]; exact h3) h4 hst
          refine ⟨.tuple #[], _, g, ?_, R', e', htup _, fun id h => .inl h⟩
          simp [Builtin.delete_, hts, run_underlying g1, gom h2, hck, hfk, som _ h2]
        | some p =>
          obtain ⟨j, u0⟩ := p
          simp only [Nat.sub_zero] at hdel
          obtain ⟨R', e'⟩ := R.setMap (l' := mapDel k' a l') ho h1 (es := es.eraseIdxIfInBounds j) (clock := clock) hlt (by simpa using hdel) h4 (Go.MapKept.stamped_erase hst j)
          refine ⟨.tuple #[], _, g, ?_, R', e', htup _, fun id h => .inl h⟩
          simp [Builtin.delete_, hts, run_underlying g1, gom h2, hck, hfk, som _ h2]
      · simp at hs
    · simp at hs
  · simp at hs
end
end Go.Eng

set_option linter.unusedVariables false
set_option linter.unusedSimpArgs false
namespace Go.Eng
open Go.RowKit (Below)
section
variable {C : Cx} {w w' : World} {g g' : Gh} {h : Heap} {P : Program} {T : Tab} {fresh : Nat}
theorem QRes.xar {te : TypeId} {e : Ty} {xs : List e.den} {x : Value} {cells : List Value} (R : RelH C h w g) (hU : ¬ g.U fresh) (hb : Below w.heap.size w w')
    (hown : w'.ownsRow w.heap.size te e.cells x xs.length cells) (hr : reps w g.F e xs cells) (h0 : 0 < e.cells) (hx : ∃ A, x = .slice A xs.length xs.length) :
    QRes C w g fresh (.own fresh) [(fresh, .xar te e xs)] x w' (g.new fresh x) := by
  obtain ⟨A, hA⟩ := hx
  have q := QRes.arr (C := C) (h := h) R hU hb hown hr h0 ⟨A, _, _, hA⟩
  have hO := (q.neu fresh (.arr te e xs) (by simp [lookN])).2.2.1
  refine QRes.one hU hb R.F q.val ⟨hO, A, by rw [show (g.new fresh x).anch fresh = x from upd_same _ _ _]; exact hA⟩ fun b hb' => ?_
  exact (q.neu fresh (.arr te e xs) (by simp [lookN])).2.2.2 b (by rw [show (g.new fresh x).anch fresh = x from upd_same _ _ _]; exact hb')

theorem makeSliceX_sound (hT : TabOk P T) (R : RelH C h w g) (hf : FreshIds g fresh) {t : TypeId} {l cp v : V} {lx cx : Value} {c : List Prop} {news : Heap} (hs : makeSliceX T t l cp fresh = some (c, v, news)) (hc : ∀ p ∈ c, p)
    (hl : RV C w g l lx) (hcp : RV C w g cp cx) : ∃ val w' g', (Instr.makeSlice t lx cx).run P w = .ok val w' ∧ QRes C w g fresh v news val w' g' := by
  unfold makeSliceX at hs
  cases he : elemT T t with
  | none => simp [he] at hs
  | some p =>
    obtain ⟨te, e, bytes, zero⟩ := p
    obtain ⟨inf, z, g1, g2, g3, g4, g5, g6, g7, g8, g9⟩ := elem_of hT he
    cases l <;> simp only [he] at hs
    all_goals try (simp at hs; done)
    case i k1 n =>
    cases cp <;> simp only at hs
    all_goals try (simp at hs; done)
    case i k2 m =>
    split at hs
    · rename_i z' hone hden
      simp only [Option.some.injEq, Prod.mk.injEq] at hs
      obtain ⟨rfl, rfl, rfl⟩ := hs
      simp only [RV] at hl hcp
      obtain ⟨rfl, _⟩ := hl
      obtain ⟨rfl, _⟩ := hcp
      have c1 : 0 ≤ n := hc _ (by simp)
      have c2 : n = m := hc _ (by simp)
      have c3 : m * bytes ≤ 140737488355328 := hc _ (by simp)
      have c4 : m ≤ 140737488355328 := hc _ (by simp)
      subst c2
      have hmk := run_make (P := P) w t te inf z g1 g2 g5 k1 k2 n n c1 (Int.le_refl _) (by rw [g4, Int.mul_comm]; omega) (by omega)
      have R0 : RelH C [] w g := ⟨R.keep, R.size, R.os, R.tape, R.output, R.F, R.Fin, R.pin, R.lam, fun _ _ h => by simp [lookN] at h, fun _ _ _ _ _ h => by simp [lookN] at h⟩
      rw [← g6] at hden hone
      have hzc := zero_cells (C := C) (w := w) (g := g) z.cells.toList hone
      have hrep := toDen_all R0 hden hzc
      have hb : Below w.heap.size w (w.alloc (.cells (madeCells z.cells (n.toNat * inf.size)) te)) := (Below.refl _ _).alloc (Nat.le_refl _) _
      have hsz : (madeCells z.cells (n.toNat * inf.size)).size = n.toNat * e.cells := by rw [size_madeCells, g3]
      have hown := ownsRow_new (w := w) (w1 := w.alloc (.cells (madeCells z.cells (n.toNat * inf.size)) te)) (te := te) _ n.toNat n.toNat (Nat.le_refl _) (by simp only [maxLen]; omega) hsz (heap_alloc_new w _)
      have hcells : (madeCells z.cells (n.toNat * inf.size)).toList.take (n.toNat * e.cells) = repL z.cells.toList n.toNat := by
        rw [g3, ← g8, madeCells_eq]
        apply List.ext_getElem?
        intro j
        by_cases hj : j < n.toNat * z.cells.size
        · rw [List.getElem?_take_of_lt hj]
        · rw [List.getElem?_eq_none (by rw [List.length_take]; omega), List.getElem?_eq_none (by rw [repL_len]; simp; omega)]
      rw [hcells] at hown
      refine ⟨_, _, _, hmk, QRes.xar (cells := repL z.cells.toList n.toNat) R (hf fresh (Nat.le_refl _) (by omega)) hb (by simpa using hown) (reps_replicate hrep _) g7 ⟨_, by rw [List.length_replicate]⟩⟩
    · simp at hs

theorem lenX_sound (hT : TabOk P T) (R : RelH C h w g) {t : TypeId} {v r : V} {x : Value} {c : List Prop} {news : Heap} (hs : lenX T t v h = some (c, r, news)) (hv : RV C w g v x) {ty : TypeId} :
    news = [] ∧ ∃ val, (Builtin.len_ #[t] ty #[x]).run P w = .ok val w ∧ RV C w g r val := by
  unfold lenX at hs
  cases hti : T.ti t with
  | none => simp [hti] at hs
  | some i =>
    simp only [hti] at hs
    obtain ⟨inf, u, z, g1, g2, g3, g4, g5⟩ := ti_of hT hti
    have sl : ∀ (n : Nat) (A : Option Addr) (cap : Nat), isSliceD i.d = true → x = .slice A n cap → n ≤ maxLen → ∃ val, (Builtin.len_ #[t] ty #[x]).run P w = .ok val w ∧ RV C w g (.i .i64 (n : Int)) val := by
      intro n A cap hd hx hn
      rw [← g4] at hd
      obtain ⟨e, rfl⟩ := isSliceD_of hd
      subst hx
      exact ⟨.int .i64 (n : Int), by simp [Builtin.len_, run_underlying g2, goInt], by simp only [RV, true_and]; exact wrap_len hn⟩
    split at hs
    · rename_i e f xs hd
      simp only [Option.some.injEq, Prod.mk.injEq] at hs
      obtain ⟨rfl, rfl, rfl⟩ := hs
      simp only [RV] at hv
      obtain ⟨A, cap, cells, q, _⟩ := view_of_rep R.F hv.1
      exact ⟨rfl, sl _ _ _ hd q.val (by have := q.le; have := q.max; omega)⟩
    · rename_i id hd
      simp only [RV] at hv
      obtain ⟨hU, rfl, _⟩ := hv
      split at hs
      · rename_i te e xs ho
        simp only [Option.some.injEq, Prod.mk.injEq] at hs
        obtain ⟨rfl, rfl, rfl⟩ := hs
        obtain ⟨A, cap, cells, q⟩ := view_of_arr (RO_xar (R.obj id _ ho).2)
        exact ⟨rfl, sl _ _ _ hd q.val (by have := q.le; have := q.max; omega)⟩
      · rename_i te e rows ho
        simp only [Option.some.injEq, Prod.mk.injEq] at hs
        obtain ⟨rfl, rfl, rfl⟩ := hs
        obtain ⟨A, cap, cells, q⟩ := view_of_arr (RO_arx (R.obj id _ ho).2)
        have e0 := q.val
        have := q.le
        have := q.max
        rw [List.length_map] at *
        exact ⟨rfl, sl _ _ _ hd e0 (by omega)⟩
      · simp at hs
    · simp at hs

theorem indexX_sound (hT : TabOk P T) (R : RelH C h w g) {t : TypeId} {a ix v : V} {x y : Value} {c : List Prop} {news : Heap}
    (hs : indexX T t a ix h = some (c, v, news)) (hc : ∀ p ∈ c, p) (ha : RV C w g a x) (hi : RV C w g ix y) :
    news = [] ∧ ∃ val, (Instr.indexAt t x y).run P w = .ok val w ∧ RV C w g v val := by
  unfold indexX at hs
  split at hs
  · rename_i id k n
    split at hs
    · rename_i te0 e rows ho
      cases he : elemT T t with
      | none => simp [he] at hs
      | some p =>
        obtain ⟨te, e', bytes, zero⟩ := p
        obtain ⟨inf, z, g1, g2, g3, _⟩ := elem_of hT he
        simp only [he] at hs
        split at hs
        · rename_i heq _
          subst heq
          simp only [Option.some.injEq, Prod.mk.injEq] at hs
          obtain ⟨rfl, rfl, rfl⟩ := hs
          have h0 : 0 ≤ n := hc _ (by simp)
          have h1 : n < rows.length := hc _ (by simp)
          obtain ⟨m, rfl⟩ := Int.eq_ofNat_of_zero_le h0
          simp only [RV] at ha hi
          obtain ⟨hU, rfl, _⟩ := ha
          obtain ⟨rfl, _, _⟩ := hi
          obtain ⟨A, cap, cells, q⟩ := view_of_arr (RO_arx (R.obj id _ ho).2)
          have hm : m < rows.length := by simpa using h1
          cases A with
          | none => have := q.nil rfl; have := q.le; rw [List.length_map] at *; omega
          | some ad =>
            rw [q.val]
            refine ⟨rfl, _, run_indexAt_slice g1 g2 g3 (by rw [List.length_map]; exact hm), ?_⟩
            simp only [RV]
            exact ⟨hU, ad, _, _, q.val, by simp⟩
        · simp at hs
    · simp at hs
  · simp at hs

theorem loadX_sound (hT : TabOk P T) (R : RelH C h w g) {t : TypeId} {a v : V} {x : Value} {c : List Prop} {news : Heap}
    (hs : loadX T t a h = some (c, v, news)) (hc : ∀ p ∈ c, p) (ha : RV C w g a x) :
    news = [] ∧ ∃ val, (Instr.loadAt t x).run P w = .ok val w ∧ RV C w g v val := by
  unfold loadX at hs
  split at hs
  · rename_i i id e row hi
    split at hs
    · rename_i te e' rows hd ho
      split at hs
      · rename_i heq _
        subst heq
        simp only [Option.some.injEq, Prod.mk.injEq] at hs
        obtain ⟨rfl, rfl, rfl⟩ := hs
        simp only [Bool.and_eq_true] at hd
        obtain ⟨hd1, hd2⟩ := hd
        have hsz := Nat.eq_of_beq_eq_true hd2
        simp only [RV] at ha
        obtain ⟨hU, ad, n, cp, h1, rfl⟩ := ha
        have hrow : row < rows.length := hc _ (by simp)
        refine ⟨rfl, ?_⟩
        obtain ⟨cells, k1, k2, k3, k4⟩ := (R.obj id _ ho).2
        have hrl : row < (rows.map fun p => p.2).length := by rw [List.length_map]; exact hrow
        obtain ⟨ci, hrep, htk⟩ := reps_at (.slice e') _ cells k2 row hrl
        rw [List.getElem_map] at hrep
        rw [getD_get _ _ _ hrow]
        have hlen : cells.length = rows.length := by have := k1.1; simpa using this
        have hcl : row < cells.length := by omega
        have hci : ci = [cells[row]] := by
          rw [← htk]
          simp only [Ty.cells, Nat.mul_one]
          rw [List.drop_eq_getElem_cons hcl]
          rfl
        subst hci
        have hcell : w.cell? (ad.add row) = some cells[row] := by
          have hb : (g.anch id).ownBlock = some ad.block := by rw [h1]; rfl
          have := k1.cells hb row cells[row] (List.getElem?_eq_getElem hcl)
          rcases k1.2 with ⟨hv, _⟩ | ⟨g', cap, cur, hv, _⟩
          · rw [h1] at hv; simp at hv
          · rw [h1] at hv; simp at hv
            obtain ⟨rfl, _, _⟩ := hv
            exact this
        have hv : RVs C w g [.os e' rows[row].1 rows[row].2] [cells[row]] := by
          simp only [RVs, RV]
          refine ⟨_, [], rfl, ⟨hrep, fun hf => ?_⟩, rfl⟩
          obtain ⟨A, hA⟩ := k3 row rows[row].1 rows[row].2 (by rw [List.getElem?_eq_getElem hrow]) hf
          rw [List.getElem?_eq_getElem hcl] at hA
          exact ⟨A, Option.some.inj hA⟩
        obtain ⟨val, hr, hv⟩ := run_loadVar_cells hT hi (a0 := ad.add (row * (Ty.slice e').cells)) hv (fun j y hy => by
          have hj : j = 0 := by
            have hlt := (List.getElem?_eq_some_iff.1 hy).1
            simp at hlt; omega
          subst hj
          simp at hy
          subst hy
          rw [add_add]
          simpa [Ty.cells] using hcell) (by simp [hsz]) (v := .os e' rows[row].1 rows[row].2) (by
            cases hdd : i.d <;> simp [hdd, isSliceD] at hd1
            simp [mkV, isAggD])
        exact ⟨val, by rw [Nat.add_zero]; simp [Instr.loadAt, Instr.sureAddr, hr], hv⟩
      · simp at hs
    · simp at hs
  · simp at hs

theorem appendO_sound (hT : TabOk P T) (R : RelH C h w g) (hf : FreshIds g fresh) {t ty : TypeId} {s a v : V} {sx x : Value} {c : List Prop} {news : Heap} (hs : appendO T t s a fresh h = some (c, v, news)) (hc : ∀ p ∈ c, p)
    (hsv : RV C w g s sx) (ha : RV C w g a x) : ∃ val w' g', (Builtin.append_ #[t, t] ty #[sx, x]).run P w = .ok val w' ∧ QRes C w g fresh v news val w' g' := by
  unfold appendO at hs
  split at hs
  · rename_i te e bytes zero e' f xs0 he
    obtain ⟨inf, z, g1, g2, g3, g4, g5, g6, g7, g8, g9⟩ := elem_of hT he
    split at hs
    · rename_i xs ys hcast hvw
      obtain ⟨rfl, hxs⟩ := castL_eq hcast
      simp at hxs
      subst hxs
      simp only [Option.some.injEq, Prod.mk.injEq] at hs
      obtain ⟨rfl, rfl, rfl⟩ := hs
      have c1 : f = true := hc _ (by simp)
      have c2 : 0 < ys.length := hc _ (by simp)
      have c3 : (xs0.length + ys.length) * bytes ≤ 140737488355328 := hc _ (by simp)
      have c4 : xs0.length + ys.length ≤ maxLen := hc _ (by simp)
      simp only [RV] at hsv
      obtain ⟨hrep, hex⟩ := hsv
      obtain ⟨A1, rfl⟩ := hex c1
      obtain ⟨A, cap, ncells, q, _⟩ := viewL_sound R hvw ha
      obtain ⟨A', cap', ocells, q', _⟩ := view_of_rep R.F hrep
      have hval := q'.val
      simp only [Value.slice.injEq] at hval
      obtain ⟨rfl, _, rfl⟩ := hval
      have hU := hf fresh (Nat.le_refl _) (by omega)
      rw [q.val]
      cases A with
      | none => have := q.nil rfl; have := q.le; omega
      | some ad =>
        have hfin : ∀ (v' : Value) (w' : World), Below w.heap.size w w' → w'.ownsRow w.heap.size te e'.cells v' (xs0.length + ys.length) (ocells ++ ncells) → QRes C w g fresh (.own fresh) [(fresh, .arr te e' (xs0 ++ ys))] v' w' (g.new fresh v') := fun v' w' hb hown => by
          refine QRes.arr (fresh := fresh) R hU hb (by rw [List.length_append]; exact hown) (reps_append e' _ _ _ _ q'.rows q.rows) g7 (ownsRow_slice hown)
        have hnl := reps_len e' _ _ q.rows
        have hol := reps_len e' _ _ q'.rows
        cases A1 with
        | none =>
          have h0 := q'.nil rfl
          have hx : xs0 = [] := List.eq_nil_of_length_eq_zero h0
          subst hx
          have ho := q'.rows
          simp only [reps] at ho
          subst ho
          obtain ⟨v', w', h1, h2, h3, h5⟩ := run_append_view (P := P) (ty := ty) g1 g2 g3 g4 g5 g7 g8 (World.ownsRow_nil w w.heap.size te e'.cells) q (by simpa using c3) (by simpa using c4) (Nat.le_refl _)
          have hb : Below w.heap.size w w' := ⟨h3.os, h3.tape, h3.output, h3.size, fun k hk => h3.block k hk (by simp [Value.ownBlock])⟩
          refine ⟨v', w', _, by rw [← q.val]; exact h1, hfin v' w' hb (by simpa using h2)⟩
        | some bd =>
          have hr := run_append_grow (P := P) (w := w) t ty te inf z g1 g2 g5 bd xs0.length xs0.length ocells (by rw [g3]; exact hol) (q'.cell bd rfl) ad ys.length cap ncells (by rw [g3]; exact hnl) (q.cell ad rfl) (by omega) (by simp only [maxLen] at c4; omega) (by rw [g4]; exact growslice_fits (by omega) c3)
          refine ⟨_, _, _, hr, hfin _ _ ?_ ?_⟩
          · exact ⟨rfl, rfl, rfl, by simp, fun k hk => heap_alloc_old w.drew _ k hk⟩
          · have hge := grownCap_ge w (xs0.length + ys.length) xs0.length te
            refine ⟨by rw [List.length_append, hol, hnl, Nat.add_mul], .inr ⟨w.heap.size, _, _, rfl, Nat.le_refl _, heap_alloc_new w.drew _, hge, grownCap_le_maxLen w _ _ _ c4, ?_, ?_⟩⟩
            · simp only [Array.size_append, List.size_toArray, size_zeroCells, g8, hol, hnl, ← Nat.add_mul]
              congr 1
              omega
            · have : (ocells ++ ncells).length = (xs0.length + ys.length) * e'.cells := by rw [List.length_append, hol, hnl, Nat.add_mul]
              simp only [Array.toList_append, List.append_assoc]
              rw [← List.append_assoc, ← this]
              exact List.take_left
    · simp at hs
  · simp at hs

theorem viewL_setObj {id : Nat} {o o' : Obj} (ho : lookN h id = some o) (hno : ∀ own e, viewL h own e (.own id) = none) {own : Bool} {e : Ty} {a : V} {ys : List e.den} (hv : viewL h own e a = some ys) : viewL (setObj h id o') own e a = some ys := by
  cases a
  case own k =>
    by_cases hk : k = id
    · subst hk
      rw [hno] at hv
      simp at hv
    · unfold viewL at hv ⊢
      simp only [lookN_setObj, if_neg hk] at hv ⊢
      exact hv
  all_goals exact hv

theorem copyX_sound (hT : TabOk P T) (R : RelH C h w g) {t ty : TypeId} {d a v : V} {dx x : Value} {c : List Prop} {h' : Heap} (hs : copyX T t d a h = some (c, v, h'))
    (hd : RV C w g d dx) (ha : RV C w g a x) : ∃ val w' g', (Builtin.copy_ #[t, t] ty #[dx, x]).run P w = .ok val w' ∧ WRes C w g fresh v h' val w' g' := by
  unfold copyX at hs
  split at hs
  · rename_i te e bytes zero id he
    split at hs
    · rename_i te' e' xs' ho
      split at hs
      · rename_i xs ys hbt hcast hvw
        simp only [Option.some.injEq, Prod.mk.injEq] at hs
        obtain ⟨rfl, rfl, rfl⟩ := hs
        obtain ⟨rfl, hxs⟩ := castL_eq hcast
        simp at hxs
        subst hxs
        have hO := (R.obj id _ ho).2
        obtain ⟨A, hA⟩ := hO.2
        have R1 := R.reob ho rfl (RO_xar hO)
        have hl1 : lookN (setObj h id (.arr te' e' xs')) id = some (.arr te' e' xs') := by rw [lookN_setObj, if_pos rfl, ho]; rfl
        have hv1 : viewL (setObj h id (.arr te' e' xs')) true e' a = some ys := viewL_setObj ho (fun own e => by simp [viewL, ho]) hvw
        have hcs : copyV T t (.own id) a (setObj h id (.arr te' e' xs')) = some ([], .i .i64 ((min ys.length xs'.length : Nat) : Int), setObj (setObj h id (.arr te' e' xs')) id (.arr te e' (ys.take xs'.length ++ xs'.drop ys.length))) := by
          unfold copyV
          simp only [he, hv1, hl1, hbt, hcast]
        obtain ⟨val, w', g', q1, q2⟩ := copyV_sound (fresh := fresh) (ty := ty) hT R1 hcs hd ha
        have hU := (R.obj id _ ho).1
        have hl2 : lookN (setObj (setObj h id (.arr te' e' xs')) id (.arr te e' (ys.take xs'.length ++ xs'.drop ys.length))) id = some (.arr te e' (ys.take xs'.length ++ xs'.drop ys.length)) := by rw [lookN_setObj, if_pos rfl, hl1]; rfl
        have hlen : (ys.take xs'.length ++ xs'.drop ys.length).length = xs'.length := by simp; omega
        have R2 := q2.rel.reob hl2 rfl (o := .xar te e' (ys.take xs'.length ++ xs'.drop ys.length)) ⟨(q2.rel.obj id _ hl2).2, A, by rw [(q2.evo.A id hU).2, hlen]; exact hA⟩
        rw [setObj_setObj, setObj_setObj] at R2
        exact ⟨val, w', g', q1, R2, q2.evo, q2.val, q2.U⟩
      · simp at hs
    · simp at hs
  · simp at hs

theorem QRes.arx {te : TypeId} {e : Ty} {rows : List (Bool × List e.den)} {x : Value} {cells : List Value} (R : RelH C h w g) (hU : ¬ g.U fresh) (hb : Below w.heap.size w w')
    (hown : w'.ownsRow w.heap.size te 1 x rows.length cells) (hr : reps w g.F (.slice e) (rows.map fun p => p.2) cells) (hx : ∃ A n c, x = .slice A n c)
    (hfl : ∀ (i : Nat) (f : Bool) (xs : List e.den), rows[i]? = some (f, xs) → f = true → ∃ A, cells[i]? = some (.slice A xs.length xs.length)) :
    QRes C w g fresh (.own fresh) [(fresh, .arx te e rows)] x w' (g.new fresh x) := by
  have q := QRes.arr (C := C) (h := h) (e := .slice e) R hU hb (by rw [List.length_map]; exact hown) hr Nat.zero_lt_one hx
  obtain ⟨_, _, hO, hN⟩ := q.neu fresh (.arr te (.slice e) (rows.map fun p => p.2)) (by simp [lookN])
  have ha : (g.new fresh x).anch fresh = x := upd_same _ _ _
  have hm : ∀ b, ablk ((g.new fresh x).anch fresh) = some b → MutOk C (g.new fresh x) b := by
    obtain ⟨_, _, _, _, h4⟩ := hO
    exact h4
  refine QRes.one hU hb R.F q.val ⟨cells, ?_, reps_mono (fun b hF => ⟨hF, hb.block b (R.F b hF)⟩) _ _ cells hr, hfl, hm⟩ fun b hb' => hN b (by rw [ha]; exact hb')
  rw [ha]
  refine ⟨hown.1, ?_⟩
  rcases hown.2 with hn | ⟨gg, cap, cur, hv, _, rest⟩
  · exact .inl hn
  · exact .inr ⟨gg, cap, cur, hv, Nat.zero_le _, rest⟩

theorem buildX_sound (hT : TabOk P T) (R : RelH C h w g) (hf : FreshIds g fresh) {t : TypeId} {len : Nat} {parts : List (Nat × V)} {ys : List (Nat × Value)} {c : List Prop} {v : V} {h' : Heap}
    (hs : buildX T t len parts fresh h = some (c, v, h')) (hp : PartsRel C w g parts ys) :
    ∃ val w' g', (Instr.buildSlice t len ys.toArray).run P w = .ok val w' ∧ WRes C w g fresh v h' val w' g' := by
  unfold buildX at hs
  split at hs
  · rename_i te e1 bytes zero id he
    obtain ⟨inf, z, g1, g2, g3, g4, g5, g6, g7, g8, g9⟩ := elem_of hT he
    split at hs
    · rename_i k te' e xs hcs hone ho
      split at hs
      · rename_i heq hk hd
        subst heq
        obtain rfl := Nat.eq_of_beq_eq_true hk
        simp only [Option.some.injEq, Prod.mk.injEq] at hs
        obtain ⟨rfl, rfl, rfl⟩ := hs
        rw [← g6] at hcs hone
        have hz := zero_cells (C := C) (w := w) (g := g) z.cells.toList hone
        obtain ⟨us, h2, h3, h4, h5⟩ := fillV_sound _ ys _ _ (repL z.cells.toList 1).toArray hcs hp (by simpa using RVs_repL hz 1) (by simpa using one_repL (RVs_one hone hz) 1)
        have hfun : (fun i => some (i * inf.size, inf.size) : Nat → Option (Nat × Nat)) = fun j => some (j * (Ty.slice e).cells, (Ty.slice e).cells) := by rw [g3]
        have hrun := run_buildSlice (P := P) (w := w) (len := 1) g1 g2 g5 (g8.trans g3.symm) (by omega) (by rw [g3]; simp [Ty.cells]) (by rw [hfun]; exact h2)
        have hO := (R.obj k _ ho).2
        obtain ⟨A, hA⟩ := hO.2
        obtain ⟨F', R1, e1⟩ := R.freezeX ho rfl (RO_xar hO)
        have hus : us.toList = [g.anch k] := by
          simp only [RVs, RV] at h3
          obtain ⟨x, xs', h6, ⟨_, rfl, _⟩, rfl⟩ := h3
          exact h6
        have hl1 : lookN (setObj h k (.ice e xs)) k = some (.ice e xs) := by rw [lookN_setObj, if_pos rfl, ho]; rfl
        have hrep : rep w F' (.slice e) xs [g.anch k] := (R1.obj k _ hl1).2
        have hbel : Below w.heap.size w (w.alloc (.cells us te)) := (Below.refl _ _).alloc (Nat.le_refl _) _
        have hsz : us.size = 1 * 1 := by rw [← Array.length_toList, hus]; rfl
        have hown := ownsRow_new (w := w) (w1 := w.alloc (.cells us te)) (te := te) (size := 1) us 1 1 (Nat.le_refl _) (by simp [maxLen]) hsz (heap_alloc_new w _)
        rw [List.take_of_length_le (by simp; omega), hus] at hown
        have hq := QRes.arx (fresh := fresh) (te := te) (rows := [(true, xs)]) R1 (hf fresh (Nat.le_refl _) (by omega)) hbel hown (by simp only [List.map, reps]; exact ⟨_, [], rfl, hrep, rfl⟩) ⟨_, _, _, rfl⟩ (fun i f ys hi hf => by
          cases i with
          | zero => simp at hi; obtain ⟨_, rfl⟩ := hi; exact ⟨A, by simp [hA]⟩
          | succ n => simp at hi)
        have hw := hq.wres R1
        exact ⟨_, _, _, hrun, hw.rel, e1.trans hw.evo, hw.val, hw.U⟩
      · simp at hs
    · simp at hs
  · simp at hs

theorem storeX_sound (hT : TabOk P T) (R : RelH C h w g) {t : TypeId} {a v r : V} {x y : Value} {c : List Prop} {h' : Heap} (hs : storeX T t a v h = some (c, r, h')) (hc : ∀ p ∈ c, p)
    (ha : RV C w g a x) (hv : RV C w g v y) : ∃ w' g', (Instr.storeAt t x y).run P w = .ok () w' ∧ WRes C w g fresh .any h' undef w' g' := by
  unfold storeX at hs
  split at hs
  · rename_i i id e row id' hti
    obtain ⟨inf, u, z, g1, g2, g3, g4, g5, g6⟩ := ti_of hT hti
    split at hs
    · rename_i te e' rows hs1 ho1
      have hs1 := Nat.eq_of_beq_eq_true hs1
      cases hd : decEq e' e with
      | isFalse hn => simp [hd] at hs
      | isTrue heq =>
      subst heq
      cases hvw : viewL (freezeAll h [.own id']) false e' (.own id') with
      | none => simp [hd, hvw] at hs
      | some ys =>
      simp only [hd, hvw, Option.some.injEq, Prod.mk.injEq] at hs
      obtain ⟨rfl, rfl, rfl⟩ := hs
      have hcv : RVs C w g [.own id'] y.cells.toList := RV_cells hv rfl
      have hone := RVs_one (show [V.own id'].all V.one = true from rfl) hcv
      have hy1 : y.cells.size = 1 := by have := RVs_len hcv; simpa using this
      simp only [RV] at ha
      obtain ⟨hU, ad, n, cp, h1, rfl⟩ := ha
      obtain ⟨F', R1, e1, _⟩ := freezeAll_sound (w := w) [.own id'] h g R
      have hrow : row < rows.length := hc _ (by simp)
      obtain ⟨_, cells, k1, k2, k3, k4⟩ := R1.obj id _ ho1
      have hden' : rep w F' (.slice e') ys y.cells.toList := toDen_all R1 (e := .slice e') (cs := [.own id']) (x := ys) (by simp [toDen, hvw]) (RVs_mono e1 _ _ hcv)
      rcases k1.2 with ⟨hnil, hn0⟩ | ⟨gg, cap, cur, hval, _, hheap, hncap, hcm, hcs, htake⟩
      · omega
      · have h1' : (⟨g.anch, F', g.U⟩ : Gh).anch id = g.anch id := rfl
        rw [h1', h1] at hval
        simp at hval
        obtain ⟨rfl, rfl, rfl⟩ := hval
        have hrun := run_storeVar_at (P := P) (w := w) g1 (o := row) hheap (by rw [hy1]; omega) (by omega) hone
        generalize hw' : w.setRow gg (cur.toList.take row ++ y.cells.toList ++ cur.toList.drop (row + y.cells.size)).toArray = w' at hrun
        have hyl : y.cells.toList.length = y.cells.size := by simp
        have hcells : cells.length = rows.length := by have := k1.1; simpa using this
        obtain ⟨R', e2⟩ := R1.write (w' := w') (o' := .arx te e' (rows.set row (false, ys))) ho1 rfl rfl (blk := gg) (by rw [h1', h1]; rfl) (fun b hb => by rw [← hw']; exact setRow_other w gg b _ hb) (by rw [← hw']; simp [World.setRow])
          (by rw [← hw']; rfl) (by rw [← hw']; rfl) (by rw [← hw']; rfl) (fun ev => by
            refine ⟨cells.take row ++ y.cells.toList ++ cells.drop (row + y.cells.size), ⟨by simp; omega, .inr ⟨gg, cp, (cur.toList.take row ++ y.cells.toList ++ cur.toList.drop (row + y.cells.size)).toArray, ?_, Nat.zero_le _, ?_, by simpa using hncap, hcm, ?_, ?_⟩⟩, ?_, ?_, k4⟩
            · rw [h1', h1]; simp
            · rw [← hw']; exact setRow_heap w gg _ _ te _ hheap
            · simp; omega
            · simp only [List.length_set]
              rw [← htake]
              exact splice_take _ _ hyl (by omega) (by simp; omega)
            · have hx : (rows.set row (false, ys)).map (fun p => p.2) = (rows.map fun p => p.2).take row ++ [ys] ++ (rows.map fun p => p.2).drop (row + 1) := by
                rw [List.map_set, List.set_eq_take_append_cons_drop, if_pos (by rw [List.length_map]; exact hrow)]; simp
              rw [hx, hy1]
              have hd := reps_drop (.slice e') _ _ (reps_mono ev.F (.slice e') _ _ k2) (row + 1)
              have ht := reps_take (.slice e') _ _ (reps_mono ev.F (.slice e') _ _ k2) row
              simp only [Ty.cells, Nat.mul_one] at hd ht
              exact reps_append (.slice e') _ _ _ _ (reps_append (.slice e') _ _ _ _ ht ⟨_, [], by simp, rep_mono ev.F (.slice e') _ _ hden', rfl⟩) hd
            · intro j f xs hj hf
              by_cases hjr : j = row
              · subst hjr
                rw [List.getElem?_set_self hrow] at hj
                simp at hj
                rw [hf] at hj
                simp at hj
              · rw [List.getElem?_set_ne (Ne.symm hjr)] at hj
                obtain ⟨A, hA⟩ := k3 j f xs hj hf
                refine ⟨A, ?_⟩
                rw [hy1]
                have hl : (cells.take row).length = row := by rw [List.length_take]; omega
                by_cases hlt : j < row
                · rw [List.append_assoc, List.getElem?_append_left (by omega), List.getElem?_take_of_lt hlt]
                  exact hA
                · rw [List.getElem?_append_right (by rw [List.length_append, hl, hyl, hy1]; omega), List.length_append, hl, hyl, hy1, List.getElem?_drop]
                  rw [← hA]
                  congr 1
                  omega)
        refine ⟨w', ⟨g.anch, F', g.U⟩, by simp [Instr.storeAt, Instr.sureAddr, addr_add, Ty.cells, hrun], R', e1.trans e2, by simp [RV], fun id h => .inl h⟩
    · simp at hs
  · simp at hs

theorem castX_eq {e e' : Ty} {xs : List (Bool × List e.den)} {ys : List (Bool × List e'.den)} (h : castX e e' xs = some ys) : ∃ he : e = e', he ▸ xs = ys := by
  unfold castX at h
  split at h
  · rename_i he _
    subst he
    simp at h
    exact ⟨rfl, h⟩
  · simp at h
theorem view_of_own {F : Nat → Prop} {te : TypeId} {e : Ty} {v : Value} {xs : List e.den} {cells : List Value} (h1 : w.ownsRow 0 te e.cells v xs.length cells) (h2 : reps w F e xs cells) :
    ∃ A cap, View w F e xs v A cap cells := by
  rcases h1.2 with ⟨hv, hn⟩ | ⟨g', cap, cur, hv, _, hg, hnc, hm, hcs, htk⟩
  · have : xs = [] := List.eq_nil_of_length_eq_zero hn
    subst this
    simp only [reps] at h2
    subst h2
    exact ⟨none, 0, ⟨hv, rfl, by simp, by simp, fun _ => rfl, fun _ h => by simp at h, fun _ h => by simp at h⟩⟩
  · refine ⟨some ⟨g', 0, none⟩, cap, ⟨hv, h2, hnc, hm, by simp, fun ad hA j u hu => ?_, fun ad hA _ => ?_⟩⟩
    · simp at hA; subst hA
      exact h1.cells (g := g') (by rw [hv]; rfl) j u hu
    · simp at hA; subst hA
      exact (Array.getElem?_eq_some_iff.1 hg).1

theorem appendX_sound (hT : TabOk P T) (R : RelH C h w g) (hf : FreshIds g fresh) {t ty : TypeId} {s a v : V} {sx x : Value} {c : List Prop} {h' : Heap} (hs : appendX T t s a fresh h = some (c, v, h')) (hc : ∀ p ∈ c, p)
    (hsv : RV C w g s sx) (ha : RV C w g a x) : ∃ val w' g', (Builtin.append_ #[t, t] ty #[sx, x]).run P w = .ok val w' ∧ WRes C w g fresh v h' val w' g' := by
  unfold appendX at hs
  split at hs
  · rename_i te e1 bytes zero id id' he
    obtain ⟨inf, z, g1, g2, g3, g4, g5, g6, g7, g8, g9⟩ := elem_of hT he
    split at hs
    · rename_i te1 e rows te2 e' rows0 hne ho ho'
      split at hs
      · rename_i heq rows' hbt hd hcx
        subst heq
        obtain ⟨rfl, hrr⟩ := castX_eq hcx
        simp at hrr
        subst hrr
        obtain rfl := Nat.eq_of_beq_eq_true hbt
        simp only [Option.some.injEq, Prod.mk.injEq] at hs
        obtain ⟨rfl, rfl, rfl⟩ := hs
        have c1 : (rows.length + rows0.length) * bytes ≤ 140737488355328 := hc _ (by simp)
        have c2 : rows.length + rows0.length ≤ maxLen := hc _ (by simp)
        simp only [RV] at hsv ha
        obtain ⟨hUi, rfl, hsl⟩ := hsv
        obtain ⟨_, rfl, _⟩ := ha
        obtain ⟨_, cs1, k1, k2, k3, k4⟩ := R.obj id _ ho
        obtain ⟨_, cs2, l1, l2, l3, l4⟩ := R.obj id' _ ho'
        obtain ⟨A, cap, q⟩ := view_of_own (e := .slice e') (xs := rows0.map fun p => p.2) (by rw [List.length_map]; exact l1) l2
        have R1 := R.reob ho rfl (RO_arx (R.obj id _ ho).2)
        have hl1 : lookN (setObj h id (.arr te (.slice e') (rows.map fun p => p.2))) id = some (.arr te (.slice e') (rows.map fun p => p.2)) := by rw [lookN_setObj, if_pos rfl, ho]; rfl
        have hU := hf fresh (Nat.le_refl _) (by omega)
        obtain ⟨v', w', h1, h2, h3, h5⟩ := run_append_view (P := P) (ty := ty) g1 g2 g3 g4 g5 g7 g8 k1 q (by rw [List.length_map]; exact c1) (by rw [List.length_map]; exact c2) (Nat.zero_le _)
        have hF : ∀ b, g.F b → g.F b ∧ w'.heap[b]? = w.heap[b]? := fun b hb => ⟨hb, h3.block b (R.F b hb) (fun he => (k4 b (by rw [← ablk_own hsl]; exact he.symm)).2 hb)⟩
        have hrep : reps w' g.F (.slice e') ((rows.map fun p => p.2) ++ (rows0.map fun p => p.2)) (cs1 ++ cs2) := reps_mono hF _ _ _ (reps_append _ _ _ _ _ k2 l2)
        have W := R1.move (fresh := fresh) hU hl1 hsl h3 (by rw [List.length_append, List.length_map, List.length_map]; rw [List.length_map] at h2; exact h2) hrep h5 (ownsRow_slice h2)
        have hlf : lookN ((fresh, Obj.arr te (.slice e') ((rows.map fun p => p.2) ++ (rows0.map fun p => p.2))) :: delObj (setObj h id (.arr te (.slice e') (rows.map fun p => p.2))) id) fresh = some (.arr te (.slice e') ((rows.map fun p => p.2) ++ (rows0.map fun p => p.2))) := by simp [lookN]
        have hm : ∀ b, ablk ((g.new fresh v').anch fresh) = some b → MutOk C (g.new fresh v') b := by
          obtain ⟨_, _, _, _, h4⟩ := (W.rel.obj fresh _ hlf).2
          exact h4
        have hcl : cs1.length = rows.length := by have := k1.1; simpa using this
        have R2 := W.rel.reob hlf rfl (o := .arx te e' (rows ++ rows0)) ⟨cs1 ++ cs2, by
            rw [show (g.new fresh v').anch fresh = v' from upd_same _ _ _, List.length_append]; rw [List.length_map] at h2; exact h2, by rw [List.map_append]; exact hrep, fun j f xs hj hfl => by
            by_cases hlt : j < rows.length
            · rw [List.getElem?_append_left hlt] at hj
              rw [List.getElem?_append_left (by omega)]
              exact k3 j f xs hj hfl
            · rw [List.getElem?_append_right (by omega)] at hj
              rw [List.getElem?_append_right (by omega), hcl]
              exact l3 _ f xs hj hfl, hm⟩
        refine ⟨v', w', _, h1, ?_, W.evo, W.val, W.U⟩
        have hp : ∀ k o, lookN ((fresh, Obj.arx te e' (rows ++ rows0)) :: delObj (delObj h id') id) k = some o → lookN (setObj ((fresh, Obj.arr te (.slice e') ((rows.map fun p => p.2) ++ (rows0.map fun p => p.2))) :: delObj (setObj h id (.arr te (.slice e') (rows.map fun p => p.2))) id) fresh (.arx te e' (rows ++ rows0))) k = some o := fun k o hk => by
          rw [lookN_setObj, hlf]
          simp only [lookN] at hk ⊢
          cases hq : Nat.beq fresh k
          · have hkf : k ≠ fresh := fun he => by subst he; simp at hq
            rw [if_neg hkf]
            simp only [hq] at hk ⊢
            rw [lookN_delObj] at hk ⊢
            by_cases hki : k = id
            · rw [if_pos hki] at hk; simp at hk
            · rw [if_neg hki] at hk ⊢
              rw [lookN_delObj] at hk
              rw [lookN_setObj, if_neg hki]
              by_cases hki' : k = id'
              · rw [if_pos hki'] at hk; simp at hk
              · rw [if_neg hki'] at hk; exact hk
          · obtain rfl := Nat.eq_of_beq_eq_true hq
            rw [if_pos rfl]
            simp only [hq] at hk
            exact hk
        exact ⟨R2.keep, R2.size, R2.os, R2.tape, R2.output, R2.F, R2.Fin, R2.pin, R2.lam, fun id o ho => R2.obj id o (hp id o ho), fun id o id' o' b h1 h2 => R2.sep id o id' o' b (hp id o h1) (hp id' o' h2)⟩
      · simp at hs
    · simp at hs
  · simp at hs
end
end Go.Eng

set_option linter.unusedVariables false
set_option linter.unusedSimpArgs false
namespace Go.Eng
open Go.RowKit (Below)
structure SpecOk (P : Program) (f : FuncId) (s : Spec) : Prop where
  quiet : ∀ (C : Cx) (w : World) (g : Gh) (h : Heap) (fresh : Nat) (args : List V) (vals : List Value) (c : List Prop) (v : V) (news : Heap), C.P = P → RelH C h w g → FreshIds g fresh → RVs C w g args vals →
    s.q args h fresh = some (c, v, news) → (∀ p ∈ c, p) → Calls P f vals.toArray w fun e w' => ∃ x g', e = .returned x ∧ QRes C w g fresh v news x w' g'
  loud : ∀ (C : Cx) (w : World) (g : Gh) (h : Heap) (fresh : Nat) (args : List V) (vals : List Value) (c : List Prop) (v : V) (h' : Heap), C.P = P → RelH C h w g → FreshIds g fresh → RVs C w g args vals →
    s.l args h fresh = some (c, v, h') → (∀ p ∈ c, p) → Calls P f vals.toArray w fun e w' => ∃ x g', e = .returned x ∧ WRes C w g fresh v h' x w' g'
  cps : ∀ (C : Cx) (w : World) (g : Gh) (h : Heap) (fresh : Nat) (args : List V) (vals : List Value) (K : V → Heap → Prop), C.P = P → RelH C h w g → FreshIds g fresh → (∀ id, g.U id → id < fresh) → RVs C w g args vals →
    s.k args h fresh K → Calls P f vals.toArray w fun e w' => ∃ x g' v h', e = .returned x ∧ K v h' ∧ WRes C w g fresh v h' x w' g'
  turn : ∀ (C : Cx) (w : World) (g : Gh) (h h0 : Heap) (fresh : Nat) (args : List V) (vals : List Value) (c : List Prop) (v : V) (id : Nat) (ob : Obj), C.P = P → RelH C h w g → FreshIds g fresh → RVs C w g args vals → (∀ k o, lookN h0 k = some o → lookN h k = some o) →
    s.t args h0 fresh = some (c, v, id, ob) → (∀ p ∈ c, p) → Calls P f vals.toArray w fun e w' => ∃ x g', e = .returned x ∧ WRes C w g fresh v (setObj h id ob) x w' g'
  box : ∀ (h0 : Heap) (fresh : Nat) (args : List V) (c : List Prop) (v : V) (id : Nat) (ob : Obj), s.t args h0 fresh = some (c, v, id, ob) → ∃ o, lookN h0 id = some o
def FnOk (P : Program) (f : FuncId) : Prop := ∃ fn, P.funcs[f]? = some fn ∧ fn.name ≠ "runtime.NumGoroutine" ∧ fn.body.isSome = true
structure XOk (P : Program) (f : FuncId) (s : Spec) : Prop where
  val : ∀ (C : Cx) (w : World) (g : Gh) (h : Heap) (fresh : Nat) (args : List V) (vals : List Value) (c : List Prop) (v : V) (news : Heap), C.P = P → RelH C h w g → RVs C w g args vals →
    s.q args h fresh = some (c, v, news) → (∀ p ∈ c, p) → ∃ x, (callFunc f vals.toArray).run P w = .ok (.value x) w ∧ QRes C w g fresh v news x w g
  no : ∀ (args : List V) (h : Heap) (fresh : Nat), s.l args h fresh = none
  nok : s.k = noK
  not : ∀ (args : List V) (h : Heap) (fresh : Nat), s.t args h fresh = none
def SpOk (P : Program) (f : FuncId) (s : Spec) : Prop := (SpecOk P f s ∧ FnOk P f) ∨ XOk P f s
def SpecsOk (P : Program) (S : Specs) : Prop := ∀ f s, S f = some s → SpOk P f s

section
variable {C : Cx} {w w' : World} {g g' : Gh} {h : Heap} {T : Tab} {S : Specs} {fresh : Nat}
def Does (P : Program) (o : Oper) (a : Act) (w : World) (D : Value → World → Prop) : Prop :=
  ∀ (K : Act → World → Prop) (Q : Exit → Act → World → Prop), (∀ x w', D x w' → K (a.put o.dst x) w') → o.wp P a w K Q
theorem does_value {P : Program} {o : Oper} {a : Act} {D : Value → World → Prop} {x : Value} (h : (execOp a.eval o).run P w = .ok (.value x) w') (hD : D x w') : Does P o a w D := fun K Q hk => by
  unfold Oper.wp
  rw [h]
  exact hk _ _ hD
theorem does_skip {P : Program} {o : Oper} {a : Act} {D : Value → World → Prop} (h : (execOp a.eval o).run P w = .ok .skip w') (hD : D undef w') : Does P o a w D := fun K Q hk => by
  unfold Oper.wp
  rw [h]
  exact hk _ _ hD
theorem does_enter {P : Program} {o : Oper} {a : Act} {D : Value → World → Prop} {f : FuncId} {args : Array Value} (h : (execOp a.eval o).run P w = .ok (.enter f args) w) (hc : Calls P f args w fun e w' => ∃ x, e = .returned x ∧ D x w') : Does P o a w D := fun K Q hk => by
  unfold Oper.wp
  rw [h]
  refine hc.mono fun e w' ⟨x, he, hd⟩ => ?_
  subst he
  exact hk _ _ hd

theorem run_callFunc {P : Program} {f : FuncId} (hf : FnOk P f) (args : Array Value) : (callFunc f args).run P w = .ok (.enter f args) w := by
  obtain ⟨fn, h1, h2, h3⟩ := hf
  have h3' : ¬ fn.body = none := by intro hb; rw [hb] at h3; simp at h3
  simp [callFunc, h1, h2, h3']

theorem run_callValue {P : Program} {o : Oper} {a : Act} {x : Operand} {args : Array Operand} {ts : Array TypeId} (ho : o.op = .call ⟨.value x, args, ts⟩) {f : FuncId} {caps : Array Value} (hx : a.eval x = .func (.func f) #[] caps) (hf : FnOk P f) :
    (execOp a.eval o).run P w = .ok (.enter f ((args.map a.eval) ++ caps)) w := by
  simp [execOp, ho, resolve, Deferred.ofValue, hx, invoke, run_callFunc hf]

theorem storeV_any {t : TypeId} {a x v : V} {c : List Prop} {h' : Heap} (hs : storeV T t a x h = some (c, v, h')) : v = .any := by
  unfold storeV at hs
  repeat' (split at hs)
  all_goals first
    | (simp at hs; done)
    | (simp only [ok1, Option.some.injEq, Prod.mk.injEq] at hs; exact hs.2.1.symm)

theorem stepQ1_sound (hT : TabOk C.P T) (hS : SpecsOk C.P S) (R : RelH C h w g) (hf : FreshIds g fresh) {env : Env} {a : Act} (E : RelE C env a.tmps w g) {o : Oper} {c : List Prop} {v : V} {news : Heap}
    (hs : stepQ1 T S o fresh env h = some (c, v, news)) (hc : ∀ p ∈ c, p) : Does C.P o a w fun x w' => ∃ g', QRes C w g fresh v news x w' g' := by
  have pure1 : ∀ {s : Sem Value} {v : V} {x : Value}, (execOp a.eval o).run C.P w = (do pure (.value (← s)) : Sem Next).run C.P w → s.run C.P w = .ok x w → RV C w g v x → Does C.P o a w fun x w' => ∃ g', QRes C w g fresh v [] x w' g' := by
    intro s v x h1 h2 h3
    exact does_value (x := x) (w' := w) (by rw [h1]; simp [h2]) ⟨g, QRes.pure h3⟩
  unfold stepQ1 at hs
  split at hs
  all_goals try (simp at hs; done)
  · -- move
    rename_i x ho
    simp only [Option.some.injEq, Prod.mk.injEq] at hs
    obtain ⟨rfl, rfl, rfl⟩ := hs
    exact does_value (by simp [execOp, ho]) ⟨g, QRes.pure (rd_rel E x)⟩
  · -- assign
    rename_i x ho
    simp only [Option.some.injEq, Prod.mk.injEq] at hs
    obtain ⟨rfl, rfl, rfl⟩ := hs
    exact does_value (by simp [execOp, ho]) ⟨g, QRes.pure (rd_rel E x)⟩
  · -- pick
    rename_i x y z ho
    have hx := rd_rel E x
    split at hs
    · rename_i hb
      simp only [Option.some.injEq, Prod.mk.injEq] at hs
      obtain ⟨rfl, rfl, rfl⟩ := hs
      rw [hb] at hx
      simp only [RV] at hx
      exact does_value (by simp [execOp, ho, hx, asBool]) ⟨g, QRes.pure (rd_rel E y)⟩
    · rename_i hb
      simp only [Option.some.injEq, Prod.mk.injEq] at hs
      obtain ⟨rfl, rfl, rfl⟩ := hs
      rw [hb] at hx
      simp only [RV] at hx
      exact does_value (by simp [execOp, ho, hx, asBool]) ⟨g, QRes.pure (rd_rel E z)⟩
    · simp at hs
  · -- alloc
    rename_i te ho
    split at hs
    · rename_i i hti
      cases hone : (i.zero.map zeroV).all V.one
      · simp [hone] at hs
      simp only [hone, Option.some.injEq, Prod.mk.injEq] at hs
      obtain ⟨rfl, rfl, rfl⟩ := hs
      obtain ⟨inf, u, z, g1, g2, g3, g4, g5, g6, g7, g8⟩ := ti_of hT hti
      rw [← g7] at hone ⊢
      have hz := zero_cells (C := C) (w := w) (g := g) z.cells.toList hone
      have hq := QRes.box (fresh := fresh) (te := te) R (hf fresh (Nat.le_refl _) (by omega)) hz (RVs_one hone hz)
      exact does_value (x := .pointer (some ⟨w.heap.size, 0, none⟩)) (w' := w.alloc (.cells z.cells.toList.toArray te)) (by simp [execOp, ho, Instr.alloc, zeroValue, typeInfo, g1, g3, newVar, newRow]) ⟨_, hq⟩
    · simp at hs
  · -- box
    rename_i te x ho
    cases hone : (rd env x).cells.all V.one
    · simp [hone] at hs
    simp only [hone, Option.some.injEq, Prod.mk.injEq] at hs
    obtain ⟨rfl, rfl, rfl⟩ := hs
    have hcv := RV_cells (rd_rel E x) hone
    have hq := QRes.box (fresh := fresh) (te := te) R (hf fresh (Nat.le_refl _) (by omega)) hcv (RVs_one hone hcv)
    exact does_value (x := .pointer (some ⟨w.heap.size, 0, none⟩)) (w' := w.alloc (.cells (a.eval x).cells.toList.toArray te)) (by simp [execOp, ho, Instr.box, newVar, newRow]) ⟨_, hq⟩
  · -- build
    rename_i t parts ho
    obtain ⟨rfl, val, h1, h2⟩ := buildV_sound hT hs (partsRel_map E parts.toList)
    refine pure1 (s := Instr.build t (parts.map fun (i, x) => (i, a.eval x))) (by simp [execOp, ho]) (x := val) ?_ h2
    rw [← h1]
    congr 1
    congr 1
    apply Array.ext'
    simp
  · -- buildSlice
    rename_i t len parts ho
    obtain ⟨val, w1, g1, h1, h2⟩ := buildSliceQ_sound hT R hf hs (partsRel_map E parts.toList)
    refine does_value (x := val) (w' := w1) ?_ ⟨g1, h2⟩
    have : (parts.map fun (i, x) => (i, a.eval x)) = (parts.toList.map fun p => (p.1, a.eval p.2)).toArray := by apply Array.ext'; simp
    simp only [execOp, ho, this]
    simp [h1]
  · -- load
    rename_i t x ho
    obtain ⟨rfl, val, h1, h2⟩ := loadV_sound hT R hs hc (rd_rel E x)
    exact pure1 (by simp [execOp, ho]) h1 h2
  · -- nilCheck
    rename_i x ho
    have hx := rd_rel E x
    have hval : ∀ ad, a.eval x = .pointer (some ad) → (execOp a.eval o).run C.P w = .ok (.value (a.eval x)) w := fun ad h => by simp [execOp, ho, h]
    split at hs
    · rename_i id col hr
      simp only [Option.some.injEq, Prod.mk.injEq] at hs
      obtain ⟨rfl, rfl, rfl⟩ := hs
      rw [hr] at hx
      have hx' := hx
      simp only [RV] at hx
      obtain ⟨_, ad, _, he⟩ := hx
      exact does_value (hval _ he) ⟨g, QRes.pure hx'⟩
    · rename_i cs hr
      simp only [Option.some.injEq, Prod.mk.injEq] at hs
      obtain ⟨rfl, rfl, rfl⟩ := hs
      rw [hr] at hx
      have hx' := hx
      simp only [RV] at hx
      obtain ⟨ad, _, he, _⟩ := hx
      exact does_value (hval _ he) ⟨g, QRes.pure hx'⟩
    · rename_i id e r cc hr
      simp only [Option.some.injEq, Prod.mk.injEq] at hs
      obtain ⟨rfl, rfl, rfl⟩ := hs
      rw [hr] at hx
      have hx' := hx
      simp only [RV] at hx
      obtain ⟨_, ad, _, _, _, he⟩ := hx
      exact does_value (hval _ he) ⟨g, QRes.pure hx'⟩
    · simp at hs
  · -- binOp
    rename_i op t x y yt ho
    cases hb : binV T op t (rd env x) (rd env y) with
    | none => simp [hb, r2] at hs
    | some p =>
      obtain ⟨c', v'⟩ := p
      simp only [hb, r2, Option.some.injEq, Prod.mk.injEq] at hs
      obtain ⟨rfl, rfl, rfl⟩ := hs
      obtain ⟨val, h1, h2⟩ := binV_sound hT hb hc (rd_rel E x) (rd_rel E y) x y
      exact pure1 (s := do eqGuard op t x y (a.eval x) (a.eval y); binOp op t (a.eval x) (a.eval y)) (by simp [execOp, ho]) h1 h2
  · -- unOp
    rename_i op t x ho
    cases hb : unV op (rd env x) with
    | none => simp [hb, r2] at hs
    | some p =>
      obtain ⟨c', v'⟩ := p
      simp only [hb, r2, Option.some.injEq, Prod.mk.injEq] at hs
      obtain ⟨rfl, rfl, rfl⟩ := hs
      obtain ⟨val, h1, h2⟩ := unV_sound (P := C.P) hb (rd_rel E x)
      exact pure1 (by simp [execOp, ho]) h1 h2
  · -- convert
    rename_i src dst x ho
    obtain ⟨val, w1, g1, h1, h2⟩ := convV_sound (fresh := fresh) hT R hs hc (rd_rel E x)
    exact does_value (x := val) (w' := w1) (by simp [execOp, ho, h1]) ⟨g1, h2⟩
  · -- makeFunc
    rename_i f first caps ho
    split at hs
    · rename_i hfirst
      simp only [Option.some.injEq, Prod.mk.injEq] at hs
      obtain ⟨rfl, rfl, rfl⟩ := hs
      have h0 : first = #[] := by apply Array.ext'; simpa using hfirst
      subst h0
      refine does_value (x := .func (.func f) #[] (caps.map a.eval)) (w' := w) (by simp [execOp, ho, Instr.makeFunc]) ⟨g, QRes.pure ?_⟩
      simp only [RV]
      exact ⟨caps.toList.map a.eval, by congr 1; apply Array.ext'; simp, rds_rel E caps.toList⟩
    · simp at hs
  · -- makeSlice
    rename_i t l cc ho
    split at hs
    · simp at hs
    · obtain ⟨val, w1, g1, h1, h2⟩ := makeSliceV_sound hT R hf hs hc (rd_rel E l) (rd_rel E cc)
      exact does_value (x := val) (w' := w1) (by simp [execOp, ho, h1]) ⟨g1, h2⟩
  · -- slice
    rename_i t x lo hi mx ho
    obtain ⟨rfl, val, h1, h2⟩ := sliceV_sound hT R hs hc (rd_rel E x) (optRel_map E lo) (optRel_map E hi) (optRel_map E mx)
    exact pure1 (by simp [execOp, ho]) h1 h2
  · -- fieldAddr
    rename_i t x f ho
    cases hb : fieldAddrV T t (rd env x) f with
    | none => simp [hb, r1] at hs
    | some p =>
      simp only [hb, r1, Option.some.injEq, Prod.mk.injEq] at hs
      obtain ⟨rfl, rfl, rfl⟩ := hs
      obtain ⟨val, h1, h2⟩ := fieldAddrV_sound hT hb (rd_rel E x)
      exact pure1 (by simp [execOp, ho]) h1 h2
  · -- field
    rename_i t x f ho
    cases hb : fieldV T t (rd env x) f with
    | none => simp [hb, r1] at hs
    | some p =>
      simp only [hb, r1, Option.some.injEq, Prod.mk.injEq] at hs
      obtain ⟨rfl, rfl, rfl⟩ := hs
      obtain ⟨val, h1, h2⟩ := fieldV_sound hT hb (rd_rel E x)
      exact pure1 (by simp [execOp, ho]) h1 h2
  · -- indexAddr
    rename_i t x ix ho
    obtain ⟨rfl, val, h1, h2⟩ := indexAddrV_sound hT R hs hc (rd_rel E x) (rd_rel E ix)
    exact pure1 (by simp [execOp, ho]) h1 h2
  · -- index
    rename_i t x ix ho
    split at hs
    · rename_i _ _ _ _ _ hti
      obtain ⟨inf, u, z, g1, g2, g3, g4, g5⟩ := ti_of hT hti
      obtain rfl := und_str g4
      cases hb : indexV (rd env ix) (rd env x) with
      | none => simp [hb, r2] at hs
      | some p =>
        obtain ⟨c', v'⟩ := p
        simp only [hb, r2, Option.some.injEq, Prod.mk.injEq] at hs
        obtain ⟨rfl, rfl, rfl⟩ := hs
        obtain ⟨val, h1, h2⟩ := indexV_sound g2 hb hc (rd_rel E x) (rd_rel E ix)
        exact pure1 (by simp [execOp, ho]) h1 h2
    · simp at hs
  · -- extract
    rename_i x j ho
    have hx := rd_rel E x
    split at hs
    · rename_i vs hr
      cases hj : vs[j]? with
      | none => simp [hj, r1] at hs
      | some p =>
        simp only [hj, r1, Option.some.injEq, Prod.mk.injEq] at hs
        obtain ⟨rfl, rfl, rfl⟩ := hs
        rw [hr] at hx
        simp only [RV] at hx
        obtain ⟨us, he, hus⟩ := hx
        obtain ⟨y, h1, h2⟩ := RVs_at hus hj
        exact does_value (x := y) (w' := w) (by simp [execOp, ho, he, Instr.extract, h1]) ⟨g, QRes.pure h2⟩
    · simp at hs
  · -- len
    rename_i args ts ho
    split at hs
    · rename_i x t h1 h2
      have e1 : args = #[x] := by apply Array.ext'; simpa using h1
      have e2 : ts = #[t] := by apply Array.ext'; simpa using h2
      subst e1; subst e2
      obtain ⟨rfl, val, h3, h4⟩ := lenV_sound hT R hs (rd_rel E x) (ty := o.type)
      exact does_value (x := val) (w' := w) (by simp [execOp, ho, resolve, invoke, builtin, h3]) ⟨g, QRes.pure h4⟩
    · simp at hs
  · -- max
    rename_i args ts ho
    split at hs
    · rename_i x y h1
      have e1 : args = #[x, y] := by apply Array.ext'; simpa using h1
      subst e1
      cases hb : extremeV true (rd env x) (rd env y) with
      | none => simp [hb, r1] at hs
      | some p =>
        simp only [hb, r1, Option.some.injEq, Prod.mk.injEq] at hs
        obtain ⟨rfl, rfl, rfl⟩ := hs
        obtain ⟨val, h3, h4⟩ := extremeV_sound (P := C.P) (ts := ts) (ty := o.type) hb (rd_rel E x) (rd_rel E y)
        exact does_value (x := val) (w' := w) (by simp at h3; simp [execOp, ho, resolve, invoke, builtin, h3]) ⟨g, QRes.pure h4⟩
    · simp at hs
  · -- min
    rename_i args ts ho
    split at hs
    · rename_i x y h1
      have e1 : args = #[x, y] := by apply Array.ext'; simpa using h1
      subst e1
      cases hb : extremeV false (rd env x) (rd env y) with
      | none => simp [hb, r1] at hs
      | some p =>
        simp only [hb, r1, Option.some.injEq, Prod.mk.injEq] at hs
        obtain ⟨rfl, rfl, rfl⟩ := hs
        obtain ⟨val, h3, h4⟩ := extremeV_sound (P := C.P) (ts := ts) (ty := o.type) hb (rd_rel E x) (rd_rel E y)
        exact does_value (x := val) (w' := w) (by simp at h3; simp [execOp, ho, resolve, invoke, builtin, h3]) ⟨g, QRes.pure h4⟩
    · simp at hs
  · -- a call
    rename_i f args ts ho
    unfold callV at hs
    have hx := rd_rel E f
    split at hs
    · rename_i fn caps hr
      rw [hr] at hx
      simp only [RV] at hx
      obtain ⟨cvs, he, hcaps⟩ := hx
      cases hsp : S fn with
      | none => simp [hsp] at hs
      | some s =>
        simp only [hsp] at hs
        have hargs : (args.map a.eval) ++ cvs.toArray = (args.toList.map a.eval ++ cvs).toArray := by apply Array.ext'; simp
        rcases hS fn s hsp with ⟨hok, hfn⟩ | hX
        rotate_left
        · obtain ⟨x, h1, h2⟩ := hX.val C w g h fresh (args.toList.map (rd env) ++ caps) (args.toList.map a.eval ++ cvs) c v news rfl R (RVs_append (rds_rel E args.toList) hcaps) hs hc
          refine does_value (x := x) (w' := w) ?_ ⟨g, h2⟩
          simp only [execOp, ho, resolve, Sem.run_bind, Sem.run_pure, Result.andThen_ok, Deferred.ofValue, he, invoke]
          rw [← hargs] at h1
          simpa using h1
        have hcall := hok.quiet C w g h fresh (args.toList.map (rd env) ++ caps) (args.toList.map a.eval ++ cvs) c v news rfl R hf (RVs_append (rds_rel E args.toList) hcaps) hs hc
        exact does_enter (run_callValue ho he hfn) (by rw [hargs]; exact hcall.mono fun e w' ⟨x, g', h1, h2⟩ => ⟨x, h1, g', h2⟩)
    · rename_i ta tb p hr
      rw [hr] at hx
      simp only [RV, LamOk] at hx
      obtain ⟨fn, caps, he, hfn, hcall⟩ := hx
      dsimp only at hs
      split at hs
      · rename_i x hargs
        split at hs
        · rename_i y hsh hden
          simp only [Option.some.injEq, Prod.mk.injEq] at hs
          obtain ⟨rfl, rfl, rfl⟩ := hs
          clear hr
          have hrs := rds_rel E args.toList
          rw [hargs] at hrs
          simp only [RVs] at hrs
          obtain ⟨xv, _, hxs, hxv, rfl⟩ := hrs
          have hcells : x.cells.all V.one = true ∧ shape ta xv := by
            cases ta <;> simp only [shapeV] at hsh
            case pair =>
              cases x <;> simp only [Bool.false_eq_true] at hsh
              simp only [RV] at hxv
              obtain ⟨vs, rfl, hvs⟩ := hxv
              exact ⟨by simpa [V.cells] using hsh, _, rfl⟩
            all_goals
              have hone : x.cells = [x] := by cases x <;> simp [V.one, V.cells] at hsh ⊢
              exact ⟨by rw [hone]; simpa using hsh, RV_one hsh hxv⟩
          have hrep := toDen_all R hden (RV_cells hxv hcells.1)
          have hc1 := hcall w g.F y xv (fun b hb => (R.keep b (R.lam.1 b hb).1).trans (R.lam.1 b hb).2) (Nat.le_trans R.lam.2 R.size) (fun _ h => h) R.F hcells.2 hrep
          have hav : (args.map a.eval) ++ caps = #[xv] ++ caps := by congr 1; apply Array.ext'; simpa using hxs
          refine does_enter (run_callValue ho he hfn) ?_
          rw [hav]
          refine hc1.mono fun e w' ⟨r, h1, h2, h3, h4⟩ => ⟨r, h1, ⟨g.anch, fun c => g.F c ∨ (w.heap.size ≤ c ∧ c < w'.heap.size), g.U⟩, ?_⟩
          exact ⟨h2, fun b hb => .inl hb, fun b hb => hb, fun id h => ⟨h, rfl⟩, fun id h => .inl h, RV_vOfDen _ _ _ h4 h3, fun _ _ h => by simp [lookN] at h, fun _ _ _ _ _ h => by simp [lookN] at h⟩
        · simp at hs
      · simp at hs
    · simp at hs

theorem stepW1_sound (hT : TabOk C.P T) (hS : SpecsOk C.P S) (R : RelH C h w g) (hf : FreshIds g fresh) {env : Env} {a : Act} (E : RelE C env a.tmps w g) {o : Oper} {c : List Prop} {v : V} {h' : Heap}
    (hs : stepW1 T S o fresh env h = some (c, v, h')) (hc : ∀ p ∈ c, p) : Does C.P o a w fun x w' => ∃ g', WRes C w g fresh v h' x w' g' := by
  unfold stepW1 at hs
  split at hs
  all_goals try (simp at hs; done)
  · -- store
    rename_i t x y ho
    cases hst : storeV T t (rd env x) (rd env y) h with
    | none => rw [hst] at hs; simp at hs
    | some p =>
      obtain ⟨c', v', h''⟩ := p
      rw [hst] at hs
      simp only [Option.some.injEq, Prod.mk.injEq] at hs
      obtain ⟨rfl, rfl, rfl⟩ := hs
      obtain ⟨w1, g1, h1, h2⟩ := storeV_sound (fresh := fresh) hT R hst hc (rd_rel E x) (rd_rel E y)
      have hv : v' = .any := storeV_any hst
      subst hv
      exact does_skip (w' := w1) (by simp [execOp, ho, h1]) ⟨g1, h2⟩
  · -- buildSlice
    rename_i t len parts ho
    obtain ⟨val, w1, g1, h1, h2⟩ := buildSliceW_sound hT R hf hs (partsRel_map E parts.toList)
    refine does_value (x := val) (w' := w1) ?_ ⟨g1, h2⟩
    have : (parts.map fun (i, x) => (i, a.eval x)) = (parts.toList.map fun p => (p.1, a.eval p.2)).toArray := by apply Array.ext'; simp
    simp only [execOp, ho, this]
    simp [h1]
  · -- convert
    rename_i src dst x ho
    obtain ⟨val, w1, g1, h1, h2⟩ := convOwnV_sound (fresh := fresh) hT R hs hc (rd_rel E x)
    exact does_value (x := val) (w' := w1) (by simp [execOp, ho, h1]) ⟨g1, h2⟩
  · -- slice
    rename_i t x lo hi mx ho
    obtain ⟨val, w1, g1, h1, h2⟩ := sliceOwnV_sound hT R hf hs hc (rd_rel E x) (optRel_map E lo) (optRel_map E hi) (optRel_map E mx)
    exact does_value (x := val) (w' := w1) (by simp [execOp, ho, h1]) ⟨g1, h2⟩
  · -- append
    rename_i args ts ho
    split at hs
    · rename_i s x t t' h1 h2
      have e1 : args = #[s, x] := by apply Array.ext'; simpa using h1
      have e2 : ts = #[t, t'] := by apply Array.ext'; simpa using h2
      subst e1; subst e2
      cases hb : Nat.beq t t'
      · simp [hb] at hs
      simp only [hb] at hs
      obtain rfl := Nat.eq_of_beq_eq_true hb
      obtain ⟨val, w1, g1, h3, h4⟩ := appendV_sound (ty := o.type) hT R hf hs hc (rd_rel E s) (rd_rel E x)
      exact does_value (x := val) (w' := w1) (by simp [execOp, ho, resolve, invoke, builtin, h3]) ⟨g1, h4⟩
    · simp at hs
  · -- copy
    rename_i args ts ho
    split at hs
    · rename_i s x t t' h1 h2
      have e1 : args = #[s, x] := by apply Array.ext'; simpa using h1
      have e2 : ts = #[t, t'] := by apply Array.ext'; simpa using h2
      subst e1; subst e2
      cases hb : Nat.beq t t'
      · simp only [hb] at hs
        obtain ⟨val, w1, g1, h3, h4⟩ := copyS_sound (t' := t') (ty := o.type) (fresh := fresh) hT R hs (rd_rel E s) (rd_rel E x)
        exact does_value (x := val) (w' := w1) (by simp [execOp, ho, resolve, invoke, builtin, h3]) ⟨g1, h4⟩
      simp only [hb] at hs
      obtain rfl := Nat.eq_of_beq_eq_true hb
      obtain ⟨val, w1, g1, h3, h4⟩ := copyV_sound (ty := o.type) (fresh := fresh) hT R hs (rd_rel E s) (rd_rel E x)
      exact does_value (x := val) (w' := w1) (by simp [execOp, ho, resolve, invoke, builtin, h3]) ⟨g1, h4⟩
    · simp at hs
  · -- a call
    rename_i f args ts ho
    unfold callV at hs
    have hx := rd_rel E f
    split at hs
    · rename_i fn caps hr
      rw [hr] at hx
      simp only [RV] at hx
      obtain ⟨cvs, he, hcaps⟩ := hx
      cases hsp : S fn with
      | none => simp [hsp] at hs
      | some s =>
        simp only [hsp] at hs
        rcases hS fn s hsp with ⟨hok, hfn⟩ | hX
        rotate_left
        · rw [hX.no] at hs; simp at hs
        · have hcall := hok.loud C w g h fresh (args.toList.map (rd env) ++ caps) (args.toList.map a.eval ++ cvs) c v h' rfl R hf (RVs_append (rds_rel E args.toList) hcaps) hs hc
          have hargs : (args.map a.eval) ++ cvs.toArray = (args.toList.map a.eval ++ cvs).toArray := by apply Array.ext'; simp
          exact does_enter (run_callValue ho he hfn) (by rw [hargs]; exact hcall.mono fun e w' ⟨x, g', h1, h2⟩ => ⟨x, h1, g', h2⟩)
    · simp at hs
    · simp at hs

theorem isAgg_under {P : Program} {T : Tab} {t : TypeId} {i : TI} (hT : TabOk P T) (hi : T.ti t = some i) (ha : isAggD i.d = true) :
    ∃ u z, P.underlying t = some u ∧ (∀ m, u ≠ .interface m) ∧ (∀ w : World, (zeroValue t).run P w = .ok z w) := by
  obtain ⟨inf, u, z, g1, g2, g3, g4, g5, g6, g7, g8⟩ := ti_of hT hi
  refine ⟨u, z, g2, fun m h => ?_, fun w => by simp [zeroValue, typeInfo, g1, g3]⟩
  subst h
  rw [← g4] at ha
  cases ha
theorem ifaceV_sound (hT : TabOk C.P T) {t : TypeId} {x : V} {xv : Value} {c : List Prop} {v : V} {news : Heap} (hs : r1 (ifaceV T t x) = some (c, v, news)) (hx : RV C w g x xv) :
    c = [] ∧ news = [] ∧ ∃ val, (Instr.makeInterface t xv).run C.P w = .ok val w ∧ RV C w g v val := by
  unfold ifaceV at hs
  split at hs <;> try (simp [r1] at hs; done)
  rename_i i hi
  split at hs <;> try (simp [r1] at hs; done)
  rename_i ha
  simp only [r1, Option.some.injEq, Prod.mk.injEq] at hs
  obtain ⟨rfl, rfl, rfl⟩ := hs
  obtain ⟨u, z, h1, h2, h3⟩ := isAgg_under hT hi ha
  refine ⟨rfl, rfl, .iface t xv, ?_, by simp only [RV]; exact ⟨xv, rfl, hx⟩⟩
  cases u
  case interface m => exact absurd rfl (h2 m)
  all_goals simp [Instr.makeInterface, run_underlying h1]
theorem assertV_sound (hT : TabOk C.P T) {t xt : TypeId} {x : V} {xv : Value} {c : List Prop} {v : V} {news : Heap} (hs : r1 (assertV T t x) = some (c, v, news)) (hx : RV C w g x xv) :
    c = [] ∧ news = [] ∧ ∃ val, (Instr.typeAssert xv xt t true).run C.P w = .ok val w ∧ RV C w g v val := by
  unfold assertV at hs
  split at hs <;> try (simp [r1] at hs; done)
  rename_i i hi
  split at hs <;> try (simp [r1] at hs; done)
  rename_i ha
  split at hs <;> try (simp [r1] at hs; done)
  rename_i uu vv
  simp only [RV] at hx
  obtain ⟨y, rfl, hy⟩ := hx
  obtain ⟨u, z, h1, h2, h3⟩ := isAgg_under hT hi ha
  split at hs
  · rename_i hb
    obtain rfl := Nat.eq_of_beq_eq_true hb
    simp only [r1, Option.some.injEq, Prod.mk.injEq] at hs
    obtain ⟨rfl, rfl, rfl⟩ := hs
    refine ⟨rfl, rfl, .tuple #[y, .bool true], ?_, ?_⟩
    · cases u
      case interface m => exact absurd rfl (h2 m)
      all_goals simp [Instr.typeAssert, run_underlying h1]
    · simp only [RV]
      refine ⟨[y, .bool true], rfl, ?_⟩
      simp only [RVs, RV]
      exact ⟨y, _, rfl, hy, _, _, rfl, rfl, rfl⟩
  · rename_i hb
    have hne : ¬ uu = t := fun e => by subst e; simp at hb
    simp only [r1, Option.some.injEq, Prod.mk.injEq] at hs
    obtain ⟨rfl, rfl, rfl⟩ := hs
    refine ⟨rfl, rfl, .tuple #[z, .bool false], ?_, ?_⟩
    · cases u
      case interface m => exact absurd rfl (h2 m)
      all_goals simp [Instr.typeAssert, run_underlying h1, h3, hne]
    · simp only [RV]
      refine ⟨[z, .bool false], rfl, ?_⟩
      simp only [RVs, RV]
      exact ⟨z, _, rfl, trivial, _, _, rfl, rfl, rfl⟩
theorem stepQ2_sound (hT : TabOk C.P T) (R : RelH C h w g) (hf : FreshIds g fresh) {env : Env} {a : Act} (E : RelE C env a.tmps w g) {o : Oper} {c : List Prop} {v : V} {news : Heap}
    (hs : stepQ2 T o fresh env h = some (c, v, news)) (hc : ∀ p ∈ c, p) : Does C.P o a w fun x w' => ∃ g', QRes C w g fresh v news x w' g' := by
  have pure1 : ∀ {s : Sem Value} {v : V} {x : Value}, (execOp a.eval o).run C.P w = (do pure (.value (← s)) : Sem Next).run C.P w → s.run C.P w = .ok x w → RV C w g v x → Does C.P o a w fun x w' => ∃ g', QRes C w g fresh v [] x w' g' := by
    intro s v x h1 h2 h3
    exact does_value (x := x) (w' := w) (by rw [h1]; simp [h2]) ⟨g, QRes.pure h3⟩
  unfold stepQ2 at hs
  split at hs
  all_goals try (simp at hs; done)
  · rename_i t x ho
    obtain ⟨rfl, val, h1, h2⟩ := loadR_sound hT R hs hc (rd_rel E x)
    exact pure1 (by simp [execOp, ho]) h1 h2
  · rename_i t x ix ho
    obtain ⟨rfl, val, h1, h2⟩ := indexR_sound hT hs hc (rd_rel E x) (rd_rel E ix)
    exact pure1 (by simp [execOp, ho]) h1 h2
  · rename_i t x lo hi mx ho
    obtain ⟨rfl, val, h1, h2⟩ := sliceR_sound hT R hs hc (rd_rel E x) (optRel_map E lo) (optRel_map E hi) (optRel_map E mx)
    exact pure1 (by simp [execOp, ho]) h1 h2
  · rename_i t m ix ok ho
    obtain ⟨rfl, val, h1, h2⟩ := lookupV_sound hT R hs (rd_rel E m) (rd_rel E ix)
    exact pure1 (by simp [execOp, ho]) h1 h2
  · rename_i t ho
    obtain ⟨val, w1, g1, h1, h2⟩ := makeMapV_sound hT R hf hs
    exact does_value (x := val) (w' := w1) (by simp [execOp, ho, h1]) ⟨g1, h2⟩
  · rename_i args ts ho
    split at hs
    · rename_i x t h1 h2
      have e1 : args = #[x] := by apply Array.ext'; simpa using h1
      have e2 : ts = #[t] := by apply Array.ext'; simpa using h2
      subst e1; subst e2
      obtain ⟨rfl, val, h3, h4⟩ := lenR_sound hT R hs (rd_rel E x) (ty := o.type)
      exact does_value (x := val) (w' := w) (by simp [execOp, ho, resolve, invoke, builtin, h3]) ⟨g, QRes.pure h4⟩
    · simp at hs
  · rename_i args ts ho
    split at hs
    · rename_i x t h1 h2
      have e1 : args = #[x] := by apply Array.ext'; simpa using h1
      have e2 : ts = #[t] := by apply Array.ext'; simpa using h2
      subst e1; subst e2
      obtain ⟨rfl, val, h3, h4⟩ := capR_sound hT R hs (rd_rel E x) (ty := o.type)
      exact does_value (x := val) (w' := w) (by simp [execOp, ho, resolve, invoke, builtin, h3]) ⟨g, QRes.pure h4⟩
    · simp at hs
  · rename_i args ts ho
    split at hs
    · rename_i s x t t' h1 h2
      have e1 : args = #[s, x] := by apply Array.ext'; simpa using h1
      have e2 : ts = #[t, t'] := by apply Array.ext'; simpa using h2
      subst e1; subst e2
      cases hb : Nat.beq t t'
      · simp [hb] at hs
      simp only [hb] at hs
      obtain rfl := Nat.eq_of_beq_eq_true hb
      obtain ⟨val, w1, g1, h3, h4⟩ := appendNil_sound (ty := o.type) hT R hf hs hc (rd_rel E s) (rd_rel E x)
      exact does_value (x := val) (w' := w1) (by simp [execOp, ho, resolve, invoke, builtin, h3]) ⟨g1, h4⟩
    · simp at hs
  · rename_i t x ho
    obtain ⟨rfl, rfl, val, h1, h2⟩ := ifaceV_sound hT hs (rd_rel E x)
    exact pure1 (by simp [execOp, ho]) h1 h2
  · rename_i x xt t ho
    obtain ⟨rfl, rfl, val, h1, h2⟩ := assertV_sound (xt := xt) hT hs (rd_rel E x)
    exact pure1 (by simp [execOp, ho]) h1 h2
theorem storeR_any {t : TypeId} {a x v : V} {c : List Prop} {h' : Heap} (hs : storeR T t a x h = some (c, v, h')) : v = .any := by
  unfold storeR at hs
  repeat' (split at hs)
  all_goals first
    | (simp at hs; done)
    | (simp only [Option.some.injEq, Prod.mk.injEq] at hs; exact hs.2.1.symm)
theorem stepW2_sound (hT : TabOk C.P T) (R : RelH C h w g) {env : Env} {a : Act} (E : RelE C env a.tmps w g) {o : Oper} {c : List Prop} {v : V} {h' : Heap}
    (hs : stepW2 T o fresh env h = some (c, v, h')) (hc : ∀ p ∈ c, p) : Does C.P o a w fun x w' => ∃ g', WRes C w g fresh v h' x w' g' := by
  unfold stepW2 at hs
  split at hs
  all_goals try (simp at hs; done)
  · rename_i t x y ho
    obtain ⟨w1, g1, h1, h2⟩ := storeR_sound (fresh := fresh) hT R hs hc (rd_rel E x) (rd_rel E y)
    obtain rfl := storeR_any hs
    exact does_skip (w' := w1) (by simp [execOp, ho, h1]) ⟨g1, h2⟩
  · rename_i t m ix x ho
    obtain ⟨rfl, w1, g1, h1, h2⟩ := mapPutV_sound (fresh := fresh) hT R hs (rd_rel E m) (rd_rel E ix) (rd_rel E x)
    exact does_skip (w' := w1) (by simp [execOp, ho, h1]) ⟨g1, h2⟩
  · rename_i args ts ho
    split at hs
    · rename_i s x t t' h1 h2
      have e1 : args = #[s, x] := by apply Array.ext'; simpa using h1
      have e2 : ts = #[t, t'] := by apply Array.ext'; simpa using h2
      subst e1; subst e2
      cases hb : Nat.beq t t'
      · simp [hb] at hs
      simp only [hb] at hs
      obtain rfl := Nat.eq_of_beq_eq_true hb
      obtain ⟨val, w1, g1, h3, h4⟩ := copyR_sound (ty := o.type) (fresh := fresh) hT R hs hc (rd_rel E s) (rd_rel E x)
      exact does_value (x := val) (w' := w1) (by simp [execOp, ho, resolve, invoke, builtin, h3]) ⟨g1, h4⟩
    · simp at hs
  · rename_i args ts ho
    split at hs
    · rename_i s t h1 h2
      have e1 : args = #[s] := by apply Array.ext'; simpa using h1
      have e2 : ts = #[t] := by apply Array.ext'; simpa using h2
      subst e1; subst e2
      obtain ⟨val, w1, g1, h3, h4⟩ := clearR_sound (ty := o.type) (fresh := fresh) hT R hs (rd_rel E s)
      exact does_value (x := val) (w' := w1) (by simp [execOp, ho, resolve, invoke, builtin, h3]) ⟨g1, h4⟩
    · simp at hs
  · rename_i args ts ho
    split at hs
    · rename_i m ix t rt h1 h2
      have e1 : args = #[m, ix] := by apply Array.ext'; simpa using h1
      have e2 : ts = (t :: rt).toArray := by apply Array.ext'; simpa using h2
      subst e1; subst e2
      obtain ⟨val, w1, g1, h3, h4⟩ := mapDelV_sound (ty := o.type) (ts := (t :: rt).toArray) (fresh := fresh) hT R (by simp) hs (rd_rel E m) (rd_rel E ix)
      exact does_value (x := val) (w' := w1) (by simp [execOp, ho, resolve, invoke, builtin, h3]) ⟨g1, h4⟩
    · simp at hs
theorem stepQ3_sound (hT : TabOk C.P T) (R : RelH C h w g) (hf : FreshIds g fresh) {env : Env} {a : Act} (E : RelE C env a.tmps w g) {o : Oper} {c : List Prop} {v : V} {news : Heap}
    (hs : stepQ3 T o fresh env h = some (c, v, news)) (hc : ∀ p ∈ c, p) : Does C.P o a w fun x w' => ∃ g', QRes C w g fresh v news x w' g' := by
  have pure1 : ∀ {s : Sem Value} {v : V} {x : Value}, (execOp a.eval o).run C.P w = (do pure (.value (← s)) : Sem Next).run C.P w → s.run C.P w = .ok x w → RV C w g v x → Does C.P o a w fun x w' => ∃ g', QRes C w g fresh v [] x w' g' := by
    intro s v x h1 h2 h3
    exact does_value (x := x) (w' := w) (by rw [h1]; simp [h2]) ⟨g, QRes.pure h3⟩
  unfold stepQ3 at hs
  split at hs
  · simp at hs
  split at hs
  all_goals try (simp at hs; done)
  · rename_i t l cc ho
    obtain ⟨val, w1, g1, h1, h2⟩ := makeSliceX_sound hT R hf hs hc (rd_rel E l) (rd_rel E cc)
    exact does_value (x := val) (w' := w1) (by simp [execOp, ho, h1]) ⟨g1, h2⟩
  · rename_i t x ix ho
    obtain ⟨rfl, val, h1, h2⟩ := indexX_sound hT R hs hc (rd_rel E x) (rd_rel E ix)
    exact pure1 (by simp [execOp, ho]) h1 h2
  · rename_i t x ho
    obtain ⟨rfl, val, h1, h2⟩ := loadX_sound hT R hs hc (rd_rel E x)
    exact pure1 (by simp [execOp, ho]) h1 h2
  · rename_i args ts ho
    split at hs
    · rename_i x t h1 h2
      have e1 : args = #[x] := by apply Array.ext'; simpa using h1
      have e2 : ts = #[t] := by apply Array.ext'; simpa using h2
      subst e1; subst e2
      obtain ⟨rfl, val, h3, h4⟩ := lenX_sound hT R hs (rd_rel E x) (ty := o.type)
      exact does_value (x := val) (w' := w) (by simp [execOp, ho, resolve, invoke, builtin, h3]) ⟨g, QRes.pure h4⟩
    · simp at hs
  · rename_i args ts ho
    split at hs
    · rename_i s x t t' h1 h2
      have e1 : args = #[s, x] := by apply Array.ext'; simpa using h1
      have e2 : ts = #[t, t'] := by apply Array.ext'; simpa using h2
      subst e1; subst e2
      cases hb : Nat.beq t t'
      · simp [hb] at hs
      simp only [hb] at hs
      obtain rfl := Nat.eq_of_beq_eq_true hb
      obtain ⟨val, w1, g1, h3, h4⟩ := appendO_sound (ty := o.type) hT R hf hs hc (rd_rel E s) (rd_rel E x)
      exact does_value (x := val) (w' := w1) (by simp [execOp, ho, resolve, invoke, builtin, h3]) ⟨g1, h4⟩
    · simp at hs
theorem storeX_any {t : TypeId} {a x v : V} {c : List Prop} {h' : Heap} (hs : storeX T t a x h = some (c, v, h')) : v = .any := by
  unfold storeX at hs
  repeat' (split at hs)
  all_goals first
    | (simp at hs; done)
    | (simp only [Option.some.injEq, Prod.mk.injEq] at hs; exact hs.2.1.symm)
theorem stepW3_sound (hT : TabOk C.P T) (R : RelH C h w g) (hf : FreshIds g fresh) {env : Env} {a : Act} (E : RelE C env a.tmps w g) {o : Oper} {c : List Prop} {v : V} {h' : Heap}
    (hs : stepW3 T o fresh env h = some (c, v, h')) (hc : ∀ p ∈ c, p) : Does C.P o a w fun x w' => ∃ g', WRes C w g fresh v h' x w' g' := by
  unfold stepW3 at hs
  split at hs
  · simp at hs
  split at hs
  all_goals try (simp at hs; done)
  · rename_i t x y ho
    obtain ⟨w1, g1, h1, h2⟩ := storeX_sound (fresh := fresh) hT R hs hc (rd_rel E x) (rd_rel E y)
    obtain rfl := storeX_any hs
    exact does_skip (w' := w1) (by simp [execOp, ho, h1]) ⟨g1, h2⟩
  · rename_i t len parts ho
    obtain ⟨val, w1, g1, h1, h2⟩ := buildX_sound hT R hf hs (partsRel_map E parts.toList)
    refine does_value (x := val) (w' := w1) ?_ ⟨g1, h2⟩
    have : (parts.map fun (i, x) => (i, a.eval x)) = (parts.toList.map fun p => (p.1, a.eval p.2)).toArray := by apply Array.ext'; simp
    simp only [execOp, ho, this]
    simp [h1]
  · rename_i args ts ho
    split at hs
    · rename_i s x t t' h1 h2
      have e1 : args = #[s, x] := by apply Array.ext'; simpa using h1
      have e2 : ts = #[t, t'] := by apply Array.ext'; simpa using h2
      subst e1; subst e2
      cases hb : Nat.beq t t'
      · simp [hb] at hs
      simp only [hb] at hs
      obtain rfl := Nat.eq_of_beq_eq_true hb
      obtain ⟨val, w1, g1, h3, h4⟩ := appendX_sound (ty := o.type) (fresh := fresh) hT R hf hs hc (rd_rel E s) (rd_rel E x)
      exact does_value (x := val) (w' := w1) (by simp [execOp, ho, resolve, invoke, builtin, h3]) ⟨g1, h4⟩
    · simp at hs
  · rename_i args ts ho
    split at hs
    · rename_i s x t t' h1 h2
      have e1 : args = #[s, x] := by apply Array.ext'; simpa using h1
      have e2 : ts = #[t, t'] := by apply Array.ext'; simpa using h2
      subst e1; subst e2
      cases hb : Nat.beq t t'
      · simp [hb] at hs
      simp only [hb] at hs
      obtain rfl := Nat.eq_of_beq_eq_true hb
      obtain ⟨val, w1, g1, h3, h4⟩ := copyX_sound (ty := o.type) (fresh := fresh) hT R hs (rd_rel E s) (rd_rel E x)
      exact does_value (x := val) (w' := w1) (by simp [execOp, ho, resolve, invoke, builtin, h3]) ⟨g1, h4⟩
    · simp at hs
theorem stepQ0_sound (R : RelH C h w g) {env : Env} {a : Act} (E : RelE C env a.tmps w g) {o : Oper} {c : List Prop} {v : V} {news : Heap}
    (hs : stepQ0 T o env = some (c, v, news)) : Does C.P o a w fun x w' => ∃ g', QRes C w g fresh v news x w' g' := by
  unfold stepQ0 at hs
  split at hs
  · simp at hs
  split at hs
  · rename_i te x ho
    split at hs
    · rename_i hb
      simp only [Bool.and_eq_true] at hb
      simp only [Option.some.injEq, Prod.mk.injEq] at hs
      obtain ⟨rfl, rfl, rfl⟩ := hs
      have hcv := RV_cells (rd_rel E x) hb.1
      have hbl : Go.RowKit.Below w.heap.size w (w.alloc (.cells (a.eval x).cells.toList.toArray te)) := (Go.RowKit.Below.refl _ _).alloc (Nat.le_refl _) _
      let g' : Gh := ⟨g.anch, fun b => g.F b ∨ b = w.heap.size, g.U⟩
      have e : Evo w g (w.alloc (.cells (a.eval x).cells.toList.toArray te)) g' := ⟨fun b hb => ⟨.inl hb, hbl.block b (R.F b hb)⟩, fun id h => ⟨h, rfl⟩⟩
      have hnew := heap_alloc_new w (.cells (a.eval x).cells.toList.toArray te)
      refine does_value (x := .pointer (some ⟨w.heap.size, 0, none⟩)) (w' := w.alloc (.cells (a.eval x).cells.toList.toArray te)) (by simp [execOp, ho, Instr.box, newVar, newRow]) ⟨g', hbl, fun b h => .inl h, fun b h => ?_, fun id h => ⟨h, rfl⟩, fun id h => .inl h, ?_, fun _ _ h => by simp [lookN] at h, fun _ _ _ _ _ h => by simp [lookN] at h⟩
      · rcases h with h | rfl
        · exact .inl h
        · exact .inr ⟨Nat.le_refl _, (Array.getElem?_eq_some_iff.1 hnew).1⟩
      · simp only [RV]
        refine ⟨⟨w.heap.size, 0, none⟩, (a.eval x).cells.toList, rfl, .inr rfl, fun j z hz => ?_, RVs_mono e _ _ hcv⟩
        rw [addr_add, cell_of_row _ _ _ _ _ _ hnew]
        simpa using hz
    · simp at hs
  · simp at hs
theorem stepQ_sound (hT : TabOk C.P T) (hS : SpecsOk C.P S) (R : RelH C h w g) (hf : FreshIds g fresh) {env : Env} {a : Act} (E : RelE C env a.tmps w g) {o : Oper} {c : List Prop} {v : V} {news : Heap}
    (hs : stepQ T S o fresh env h = some (c, v, news)) (hc : ∀ p ∈ c, p) : Does C.P o a w fun x w' => ∃ g', QRes C w g fresh v news x w' g' := by
  unfold stepQ at hs
  split at hs
  · rename_i r hr
    simp only [Option.some.injEq] at hs
    subst hs
    exact stepQ0_sound R E hr
  · split at hs
    · rename_i r hr
      simp only [Option.some.injEq] at hs
      subst hs
      exact stepQ1_sound hT hS R hf E hr hc
    · split at hs
      · rename_i r hr
        simp only [Option.some.injEq] at hs
        subst hs
        exact stepQ2_sound hT R hf E hr hc
      · exact stepQ3_sound hT R hf E hs hc
theorem stepW_sound (hT : TabOk C.P T) (hS : SpecsOk C.P S) (R : RelH C h w g) (hf : FreshIds g fresh) {env : Env} {a : Act} (E : RelE C env a.tmps w g) {o : Oper} {c : List Prop} {v : V} {h' : Heap}
    (hs : stepW T S o fresh env h = some (c, v, h')) (hc : ∀ p ∈ c, p) : Does C.P o a w fun x w' => ∃ g', WRes C w g fresh v h' x w' g' := by
  unfold stepW at hs
  split at hs
  · rename_i r hr
    simp only [Option.some.injEq] at hs
    subst hs
    exact stepW3_sound hT R hf E hr hc
  · split at hs
    · rename_i r hr
      simp only [Option.some.injEq] at hs
      subst hs
      exact stepW1_sound hT hS R hf E hr hc
    · exact stepW2_sound hT R E hs hc
end
end Go.Eng

set_option linter.unusedVariables false
set_option linter.unusedSimpArgs false
namespace Go.Eng
open Go.RowKit (Below)
theorem forceN_eq (n : Nat) (k : Nat → Prop) : forceN n k = k n := by
  unfold forceN
  split <;> rfl
theorem forceL_eq {f : V → (V → Prop) → Prop} (hf : ∀ v k, f v k = k v) : ∀ (vs : List V) (k : List V → Prop), forceL f vs k = k vs
  | [], _ => rfl
  | v :: r, k => by
    simp only [forceL]
    rw [hf v]
    exact forceL_eq hf r _
theorem forceStep_eq {f : V → (V → Prop) → Prop} (hf : ∀ v k, f v k = k v) (v : V) (k : V → Prop) : forceStep f v k = k v := by
  unfold forceStep
  split
  all_goals first
    | rfl
    | (simp only [forceN_eq]; done)
    | exact forceL_eq hf _ _
    | exact hf _ _
    | (split <;> first | rfl | (rw [forceN_eq]))
theorem forceV_eq (v : V) (k : V → Prop) : forceV v k = k v :=
  forceStep_eq (forceStep_eq (forceStep_eq (forceStep_eq fun _ _ => rfl))) v k
theorem forceVs_eq (vs : List V) (k : List V → Prop) : forceVs vs k = k vs := forceL_eq forceV_eq vs k
theorem forceO_eq (o : Obj) (k : Obj → Prop) : forceO o k = k o := by
  cases o <;> simp only [forceO]
  exact forceVs_eq _ _
theorem forceH_eq : ∀ (h : Heap) (k : Heap → Prop), forceH h k = k h
  | [], _ => rfl
  | (n, o) :: r, k => by
    simp only [forceH, forceN_eq, forceO_eq]
    exact forceH_eq r _
theorem forceNews_eq : ∀ (n h : Heap) (k : Heap → Prop), forceNews n h k = k (n ++ h)
  | [], h, k => rfl
  | (n, o) :: r, h, k => by
    simp only [forceNews, forceN_eq, forceO_eq]
    exact forceNews_eq r h _
theorem forceE_eq : ∀ (e : Env) (k : Env → Prop), forceE e k = k e
  | [], _ => rfl
  | (n, v) :: r, k => by
    simp only [forceE, forceN_eq, forceV_eq]
    exact forceE_eq r _
theorem forcePs_eq : ∀ (l : List (Nat × Nat)) (k : List (Nat × Nat) → Prop), forcePs l k = k l
  | [], _ => rfl
  | (a, b) :: r, k => by
    simp only [forcePs, forceN_eq]
    exact forcePs_eq r _
theorem forceNs_eq : ∀ (l : List Nat) (k : List Nat → Prop), forceNs l k = k l
  | [], _ => rfl
  | n :: r, k => by
    simp only [forceNs, forceN_eq]
    exact forceNs_eq r _
theorem conj_out : ∀ {cs : List Prop} {K : Prop}, conj cs K → (∀ p ∈ cs, p) ∧ K
  | [], K, h => ⟨by simp, h⟩
  | c :: cs, K, h => by
    rw [conj_cons] at h
    obtain ⟨h1, h2⟩ := h
    obtain ⟨h3, h4⟩ := conj_out h2.out
    exact ⟨fun p hp => by
      rcases List.mem_cons.1 hp with rfl | hp
      · exact h1.out
      · exact h3 p hp, h4⟩

structure RelS (C : Cx) (N n : Nat) (env : Env) (h : Heap) (a : Act) (w : World) (g : Gh) : Prop where
  H : RelH C h w g
  E : RelE C env a.tmps w g
  ub : ∀ id, g.U id → id < n
  sz : a.tmps.size = N
  df : a.defers = []

section
variable {C : Cx} {w w' : World} {g g' : Gh} {h : Heap} {T : Tab} {S : Specs} {N n : Nat}
theorem put_sz (a : Act) (dst : Option Tmp) (x : Value) : (a.put dst x).tmps.size = a.tmps.size := by
  cases dst <;> simp [Act.put]
theorem put_df (a : Act) (dst : Option Tmp) (x : Value) : (a.put dst x).defers = a.defers := by
  cases dst <;> simp [Act.put]
theorem putK_eq (env : Env) (dst : Option Nat) (v : V) (k : Env → Prop) : putK env dst v k = k (putEnv env dst v) := by
  cases dst <;> rfl
def dstOk (N : Nat) (o : Oper) : Bool :=
  match o.dst with
  | some d => Nat.blt d N
  | none => true
theorem dstOk_lt {o : Oper} (h : dstOk N o = true) : ∀ d, o.dst = some d → d < N := by
  intro d hd
  simp only [dstOk, hd] at h
  exact Nat.le_of_ble_eq_true h

theorem RelS.next {env : Env} {a : Act} (r : RelS C N n env h a w g) {o : Oper} (hd : dstOk N o = true) {v : V} {x : Value} {h' : Heap} (q : WRes C w g n v h' x w' g') :
    RelS C N (n + 8) (putEnv env o.dst v) h' (a.put o.dst x) w' g' := by
  refine ⟨q.rel, (r.E.mono q.evo).put q.val (fun d hdd => by rw [r.sz]; exact dstOk_lt hd d hdd), fun id hi => ?_, by rw [put_sz]; exact r.sz, by rw [put_df]; exact r.df⟩
  rcases q.U id hi with h1 | h1
  · have := r.ub id h1; omega
  · omega
theorem RelS.fresh {env : Env} {a : Act} (r : RelS C N n env h a w g) : FreshIds g n := fun id h1 _ hU => by
  have := r.ub id hU; omega

theorem thenK_eq {o : Oper} {env : Env} {k : Env → Heap → Prop} {v : V} {h : Heap} (hs : thenK o env k v h) : k (putEnv env o.dst v) h := by
  unfold thenK at hs
  rwa [forceV_eq, putK_eq, forceH_eq] at hs
theorem stepC_sound (hT : TabOk C.P T) (hS : SpecsOk C.P S) {env : Env} {a : Act} (r : RelS C N n env h a w g) {o : Oper} {k : Env → Heap → Prop} (hs : stepC T S o n env h k)
    (K : Act → World → Prop) (Q : Exit → Act → World → Prop) (hk : ∀ x w' v h' g', k (putEnv env o.dst v) h' → WRes C w g n v h' x w' g' → K (a.put o.dst x) w') : o.wp C.P a w K Q := by
  unfold stepC at hs
  split at hs
  · rename_i args ts ho
    split at hs
    · rename_i s x t t' h1 h2
      have e1 : args = #[s, x] := by apply Array.ext'; simpa using h1
      have e2 : ts = #[t, t'] := by apply Array.ext'; simpa using h2
      subst e1; subst e2
      split at hs
      · rename_i hb
        obtain rfl := Nat.eq_of_beq_eq_true hb
        split at hs
        · obtain ⟨val, w1, g1, v, h', h3, h4, h5⟩ := appendS_sound (ty := o.type) hT r.H r.fresh hs (rd_rel r.E s) (rd_rel r.E x)
          exact does_value (D := fun x w' => ∃ v h' g', k (putEnv env o.dst v) h' ∧ WRes C w g n v h' x w' g') (x := val) (w' := w1) (by simp [execOp, ho, resolve, invoke, builtin, h3]) ⟨v, h', g1, thenK_eq h4, h5⟩ K Q fun x w' ⟨v, h', g', q1, q2⟩ => hk x w' v h' g' q1 q2
        · obtain ⟨val, w1, g1, v, h', h3, h4, h5⟩ := appendR_sound (ty := o.type) hT r.H r.fresh hs (rd_rel r.E s) (rd_rel r.E x)
          exact does_value (D := fun x w' => ∃ v h' g', k (putEnv env o.dst v) h' ∧ WRes C w g n v h' x w' g') (x := val) (w' := w1) (by simp [execOp, ho, resolve, invoke, builtin, h3]) ⟨v, h', g1, thenK_eq h4, h5⟩ K Q fun x w' ⟨v, h', g', q1, q2⟩ => hk x w' v h' g' q1 q2
      · obtain ⟨val, w1, g1, v, h', h3, h4, h5⟩ := appendZR_sound (ty := o.type) hT r.H r.fresh hs (rd_rel r.E s) (rd_rel r.E x)
        exact does_value (D := fun x w' => ∃ v h' g', k (putEnv env o.dst v) h' ∧ WRes C w g n v h' x w' g') (x := val) (w' := w1) (by simp [execOp, ho, resolve, invoke, builtin, h3]) ⟨v, h', g1, thenK_eq h4, h5⟩ K Q fun x w' ⟨v, h', g', q1, q2⟩ => hk x w' v h' g' q1 q2
    · exact hs.elim
  · rename_i f args ts ho
    have hx := rd_rel r.E f
    split at hs
    · rename_i fn caps hr
      rw [hr] at hx
      simp only [RV] at hx
      obtain ⟨cvs, he, hcaps⟩ := hx
      split at hs
      · rename_i s hsp
        rcases hS fn s hsp with ⟨hok, hfn⟩ | hX
        rotate_left
        · rw [hX.nok] at hs; exact hs.elim
        · have hcall := hok.cps C w g h n (args.toList.map (rd env) ++ caps) (args.toList.map a.eval ++ cvs) _ rfl r.H r.fresh r.ub (RVs_append (rds_rel r.E args.toList) hcaps) hs
          have hargs : (args.map a.eval) ++ cvs.toArray = (args.toList.map a.eval ++ cvs).toArray := by apply Array.ext'; simp
          exact does_enter (D := fun x w' => ∃ v h' g', k (putEnv env o.dst v) h' ∧ WRes C w g n v h' x w' g') (run_callValue ho he hfn) (by rw [hargs]; exact hcall.mono fun e w' ⟨x, g', v, h', h1, h2, h3⟩ => ⟨x, h1, v, h', g', thenK_eq h2, h3⟩) K Q fun x w' ⟨v, h', g', q1, q2⟩ => hk x w' v h' g' q1 q2
      · exact hs.elim
    · exact hs.elim
  · exact hs.elim
theorem stepK_sound (hT : TabOk C.P T) (hS : SpecsOk C.P S) {env : Env} {a : Act} (r : RelS C N n env h a w g) {o : Oper} (hd : dstOk N o = true) {k : Env → Heap → Prop} (hs : stepK T S o n env h k)
    (K : Act → World → Prop) (Q : Exit → Act → World → Prop) (hk : ∀ env' h' a' w' g', k env' h' → RelS C N (n + 8) env' h' a' w' g' → K a' w') : o.wp C.P a w K Q := by
  unfold stepK at hs
  split at hs
  · rename_i c v news hq
    obtain ⟨hc, hs⟩ := conj_out hs
    rw [forceV_eq, putK_eq, forceNews_eq] at hs
    exact stepQ_sound hT hS r.H r.fresh r.E hq hc K Q fun x w' ⟨g', q⟩ => hk _ _ _ _ g' hs (r.next hd (q.wres r.H))
  · split at hs
    · rename_i c v h' hq
      obtain ⟨hc, hs⟩ := conj_out hs
      rw [forceV_eq, putK_eq, forceH_eq] at hs
      exact stepW_sound hT hS r.H r.fresh r.E hq hc K Q fun x w' ⟨g', q⟩ => hk _ _ _ _ g' hs (r.next hd q)
    · exact stepC_sound hT hS r hs K Q fun x w' v h' g' hk' q => hk _ _ _ _ g' hk' (r.next hd q)

theorem split_sound {env : Env} {tmps : Array Value} (E : RelE C env tmps w g) {d : Nat} {k : Env → Prop} (hs : splitSlot env d k) : ∃ env', RelE C env' tmps w g ∧ k env' := by
  unfold splitSlot at hs
  split at hs
  · rename_i x hl
    obtain ⟨y, h1, h2⟩ := E d _ hl
    have ext : ∀ z, x = z → RelE C ((d, .bl z) :: env) tmps w g := fun z hz t v ht => by
      simp only [lookN] at ht
      cases hb : Nat.beq d t
      · rw [hb] at ht; exact E t v ht
      · rw [hb] at ht
        simp only [Option.some.injEq] at ht
        obtain rfl := Nat.eq_of_beq_eq_true hb
        subst ht; subst hz
        exact ⟨y, h1, by simpa [RV] using h2⟩
    cases x
    · exact ⟨_, ext false rfl, (hs.2 rfl).out⟩
    · exact ⟨_, ext true rfl, (hs.1 rfl).out⟩
  · exact ⟨env, E, hs⟩

theorem yielded_of {env : Env} {a : Act} (E : RelE C env a.tmps w g) {all : Array Oper} {j d : Nat} (hj : guardSlot all j = some d) {y : Bool} (hl : lookN env d = some (.bl y)) : yielded all a.tmps j = some y := by
  obtain ⟨x, h1, h2⟩ := E d _ hl
  simp only [RV] at h2
  subst h2
  unfold guardSlot at hj
  unfold yielded
  cases ho : all[j]? with
  | none => simp [ho] at hj
  | some o =>
    simp only [ho] at hj
    simp [hj, h1]

theorem yielded_none {env : Env} {a : Act} (E : RelE C env a.tmps w g) {all : Array Oper} {j d : Nat} (hj : guardSlot all j = some d) (hl : lookN env d = some (.tup [])) : yielded all a.tmps j = none := by
  obtain ⟨x, h1, h2⟩ := E d _ hl
  simp only [RV] at h2
  obtain ⟨vs, rfl, _⟩ := h2
  unfold guardSlot at hj
  unfold yielded
  cases ho : all[j]? with
  | none => simp [ho] at hj
  | some o =>
    simp only [ho] at hj
    simp [hj, h1]

theorem vop_sound {env : Env} {a : Act} (E : RelE C env a.tmps w g) {all : Array Oper} {o : Oper} {run skip : Env → Prop} (hs : vop all o env run skip) :
    (∃ env', RelE C env' a.tmps w g ∧ Region.wanted o (yielded all a.tmps) = true ∧ run env') ∨
    (∃ env', RelE C env' a.tmps w g ∧ Region.wanted o (yielded all a.tmps) = false ∧ skip (putEnv env' o.dst (.tup []))) := by
  have go : ∀ env, RelE C env a.tmps w g → (match pickSlot o with | some d => splitSlot env d run | none => run env) → ∃ env', RelE C env' a.tmps w g ∧ run env' := by
    intro env E hs
    split at hs
    · exact split_sound E hs
    · exact ⟨env, E, hs⟩
  unfold vop at hs
  dsimp only at hs
  split at hs
  · rename_i hg
    obtain ⟨env', h1, h2⟩ := go env E hs
    exact .inl ⟨env', h1, by simp [Region.wanted, hg], h2⟩
  · rename_i j want hg
    split at hs
    · exact hs.elim
    · rename_i d hd
      obtain ⟨env1, E1, hs⟩ := split_sound E hs
      split at hs
      · rename_i y hl
        have hy := yielded_of E1 hd hl
        split at hs
        · rename_i hb
          obtain ⟨env', h1, h2⟩ := go env1 E1 hs
          refine .inl ⟨env', h1, ?_, h2⟩
          simp only [Region.wanted, hg, hy]
          cases y <;> cases want <;> simp [boolEq] at hb ⊢
        · rename_i hb
          rw [putK_eq] at hs
          refine .inr ⟨env1, E1, ?_, hs⟩
          simp only [Region.wanted, hg, hy]
          cases y <;> cases want <;> simp [boolEq] at hb ⊢
      · rename_i hl
        rw [putK_eq] at hs
        refine .inr ⟨env1, E1, ?_, hs⟩
        simp only [Region.wanted, hg, yielded_none E1 hd hl]
        rfl
      · exact hs.elim

theorem RelS.skip {env : Env} {a : Act} (r : RelS C N n env h a w g) {env' : Env} (E : RelE C env' a.tmps w g) {o : Oper} (hd : dstOk N o = true) {m : Nat} (hm : n ≤ m) :
    RelS C N m (putEnv env' o.dst (.tup [])) h (a.put o.dst undef) w g :=
  ⟨r.H, E.put (by simp only [RV]; exact ⟨[], rfl, rfl⟩) (fun d hdd => by rw [r.sz]; exact dstOk_lt hd d hdd), fun id hi => Nat.lt_of_lt_of_le (r.ub id hi) hm, by rw [put_sz]; exact r.sz, by rw [put_df]; exact r.df⟩

theorem nilCmp_sound (hT : TabOk C.P T) {env : Env} {a : Act} (r : RelS C N n env h a w g) {o : Oper} {p : Bool} {q : Prop} (hs : nilCmp T o env h = some (p, q)) :
    ∃ b : Bool, (b = true → q) ∧ (execOp a.eval o).run C.P w = .ok (.value (.bool (b == p))) w := by
  unfold nilCmp at hs
  split at hs
  · rename_i op t x yt ho
    split at hs
    · rename_i e _ _ _ _ _ hti
      obtain ⟨inf, u, z, g1, g2, g3, g4, g5⟩ := ti_of hT hti
      obtain rfl := und_slice g4
      have hx := rd_rel r.E x
      have guard : ∀ (A : Option Addr) (m c : Nat) (op : BinOp), (eqGuard op t x (.const (.slice none 0 0)) (.slice A m c) (.slice none 0 0)).run C.P w = .ok () w := by
        intro A m c op
        unfold eqGuard
        cases op <;> simp
      have main : ∀ (A : Option Addr) (m c : Nat), a.eval x = .slice A m c → (A = none → q) → ((op = .eql ∧ p = true) ∨ (op = .neq ∧ p = false)) → ∃ b : Bool, (b = true → q) ∧ (execOp a.eval o).run C.P w = .ok (.value (.bool (b == p))) w := by
        intro A m c hA hq hop
        refine ⟨A.isNone, fun hb => hq (by simpa using hb), ?_⟩
        rcases hop with ⟨rfl, rfl⟩ | ⟨rfl, rfl⟩
        · have h1 : (binOp .eql t (.slice A m c) (.slice none 0 0)).run C.P w = .ok (.bool A.isNone) w := by
            simp only [binOp]
            simp [show (Op.equal t (.slice A m c) (.slice none 0 0)).run C.P w = .ok A.isNone w from equalIn_slice_nil 9999 t e A m c g2]
          simp [execOp, ho, Act.eval, guard, h1] at hA ⊢
          simp [hA, guard, h1]
        · have h1 : (binOp .neq t (.slice A m c) (.slice none 0 0)).run C.P w = .ok (.bool (!A.isNone)) w := by
            simp only [binOp]
            simp [show (Op.equal t (.slice A m c) (.slice none 0 0)).run C.P w = .ok A.isNone w from equalIn_slice_nil 9999 t e A m c g2]
          simp [execOp, ho, Act.eval, guard, h1] at hA ⊢
          simp [hA, guard, h1]
      have arr : ∀ (id : Nat) te e' xs, lookN h id = some (.arr te e' xs) → RV C w g (.own id) (a.eval x) → ∃ A m c, a.eval x = .slice A m c ∧ (A = none → xs.length = 0) := by
        intro id te e' xs hl hv
        obtain ⟨A, cap, cells, q1⟩ := view_of_arr (r.H.obj id _ hl).2
        simp only [RV] at hv
        refine ⟨A, _, _, by rw [hv.2.1]; exact q1.val, fun hA => ?_⟩
        have := q1.nil hA
        have := q1.le
        omega
      have sl : ∀ e' xs, RV C w g (.sl e' xs) (a.eval x) → ∃ A m c, a.eval x = .slice A m c ∧ (A = none → xs.length = 0) := by
        intro e' xs hv
        simp only [RV, rep] at hv
        obtain ⟨A, cap, h1, h2, h3, h4, _⟩ := hv
        simp only [List.cons.injEq, and_true] at h1
        exact ⟨A, _, _, h1, fun hA => by have := h4 hA; omega⟩
      split at hs
      · split at hs
        · rename_i e' xs hr
          simp only [Option.some.injEq, Prod.mk.injEq] at hs
          obtain ⟨rfl, rfl⟩ := hs
          rw [hr] at hx
          obtain ⟨A, m, c, h1, h2⟩ := sl _ _ hx
          exact main A m c h1 h2 (.inl ⟨rfl, rfl⟩)
        · rename_i id hr
          split at hs
          · rename_i te e' xs hl
            simp only [Option.some.injEq, Prod.mk.injEq] at hs
            obtain ⟨rfl, rfl⟩ := hs
            rw [hr] at hx
            obtain ⟨A, m, c, h1, h2⟩ := arr _ _ _ _ hl hx
            exact main A m c h1 h2 (.inl ⟨rfl, rfl⟩)
          · simp at hs
        · simp at hs
      · split at hs
        · rename_i e' xs hr
          simp only [Option.some.injEq, Prod.mk.injEq] at hs
          obtain ⟨rfl, rfl⟩ := hs
          rw [hr] at hx
          obtain ⟨A, m, c, h1, h2⟩ := sl _ _ hx
          exact main A m c h1 h2 (.inr ⟨rfl, rfl⟩)
        · rename_i id hr
          split at hs
          · rename_i te e' xs hl
            simp only [Option.some.injEq, Prod.mk.injEq] at hs
            obtain ⟨rfl, rfl⟩ := hs
            rw [hr] at hx
            obtain ⟨A, m, c, h1, h2⟩ := arr _ _ _ _ hl hx
            exact main A m c h1 h2 (.inr ⟨rfl, rfl⟩)
          · simp at hs
        · simp at hs
      · simp at hs
    · simp at hs
  · simp at hs
theorem stepKN_sound (hT : TabOk C.P T) (hS : SpecsOk C.P S) {env : Env} {a : Act} (r : RelS C N n env h a w g) {o : Oper} (hd : dstOk N o = true) {k : Env → Heap → Prop} (hs : stepKN T S o n env h k)
    (K : Act → World → Prop) (Q : Exit → Act → World → Prop) (hk : ∀ env' h' a' w' g', k env' h' → RelS C N (n + 8) env' h' a' w' g' → K a' w') : o.wp C.P a w K Q := by
  unfold stepKN at hs
  split at hs
  · rename_i p q hq
    obtain ⟨b, hb1, hb2⟩ := nilCmp_sound hT r hq
    have fin : ∀ v : Bool, (b == p) = v → (putK env o.dst (.bl v) fun env => k env h) → o.wp C.P a w K Q := fun v hv hk' => by
      rw [putK_eq] at hk'
      have D : Does C.P o a w fun x w' => ∃ g', QRes C w g n (.bl v) [] x w' g' := does_value (x := .bool (b == p)) (w' := w) hb2 ⟨g, QRes.pure (by simp [RV, hv])⟩
      exact D K Q fun x w' ⟨g', qq⟩ => hk _ _ _ _ g' hk' (r.next hd (qq.wres r.H))
    cases b
    · refine fin _ ?_ hs.2.out
      cases p <;> rfl
    · refine fin _ ?_ (hs.1 (hb1 rfl)).out
      cases p <;> rfl
  · exact stepK_sound hT hS r hd hs K Q hk
theorem vops_sound (hT : TabOk C.P T) (hS : SpecsOk C.P S) {all : Array Oper} {Q : Exit → Act → World → Prop} {K : Env → Heap → Prop} (hK : ∀ m env h a w g, K env h → RelS C N m env h a w g → Q .normal a w) :
    ∀ (ops : List Oper) (n : Nat) (env : Env) (h : Heap) (a : Act) (w : World) (g : Gh), (∀ o ∈ ops, dstOk N o = true) → vops T S all n ops env h K → RelS C N n env h a w g → wpList C.P all Q ops a w
  | [], n, env, h, a, w, g, _, hs, r => hK n env h a w g hs r
  | o :: rest, n, env, h, a, w, g, hd, hs, r => by
    have hdo := hd o (by simp)
    have hdr : ∀ o ∈ rest, dstOk N o = true := fun o ho => hd o (by simp [ho])
    rw [vops_cons] at hs
    refine wpList_step fun K' hK' => ?_
    rcases vop_sound r.E hs with ⟨env', E', hw, hs⟩ | ⟨env', E', hw, hs⟩
    · rw [if_pos hw]
      have r' : RelS C N n env' h a w g := ⟨r.H, E', r.ub, r.sz, r.df⟩
      refine stepKN_sound hT hS r' hdo hs K' Q fun env2 h2 a2 w2 g2 hk r2 => hK' _ _ ?_
      rw [forceN_eq] at hk
      exact vops_sound hT hS hK rest (n + 8) env2 h2 a2 w2 g2 hdr hk r2
    · rw [hw]
      simp only [Bool.false_eq_true, if_false]
      rw [forceN_eq] at hs
      exact hK' _ _ (vops_sound hT hS hK rest (n + 8) _ h _ w g hdr hs (r.skip E' hdo (by omega)))

def oldN : List (Nat × Nat) → Nat → Option Nat
  | [], _ => none
  | (n, j') :: r, j => if j' = j then some n else oldN r j
theorem lookN_mem {α : Type} : ∀ (l : List (Nat × α)) (id : Nat) (j : α), lookN l id = some j → (id, j) ∈ l
  | [], id, j, h => by simp [lookN] at h
  | (a, b) :: r, id, j, h => by
    simp only [lookN] at h
    cases hb : Nat.beq a id
    · rw [hb] at h; exact List.mem_cons_of_mem _ (lookN_mem r id j h)
    · rw [hb] at h
      simp only [Option.some.injEq] at h
      obtain rfl := Nat.eq_of_beq_eq_true hb
      subst h; exact List.mem_cons_self
theorem oldN_mem : ∀ {l : List (Nat × Nat)} {id j : Nat}, (l.map (·.2)).Nodup → (id, j) ∈ l → oldN l j = some id
  | (n, j') :: r, id, j, hnd, hm => by
    simp only [List.map_cons, List.nodup_cons] at hnd
    simp only [oldN]
    rcases List.mem_cons.1 hm with h | h
    · simp only [Prod.mk.injEq] at h
      rw [if_pos h.2.symm, h.1]
    · have : ¬ j' = j := fun e => hnd.1 (by rw [e]; exact List.mem_map.2 ⟨_, h, rfl⟩)
      rw [if_neg this]
      exact oldN_mem hnd.2 h
def gren (g : Gh) (ord : List (Nat × Nat)) : Gh := ⟨fun j => g.anch ((oldN ord j).getD 0), g.F, fun j => ∃ id, (id, j) ∈ ord⟩
theorem gren_mem {ord : List (Nat × Nat)} (hnd : (ord.map (·.2)).Nodup) {id j : Nat} (h : (id, j) ∈ ord) : (gren g ord).anch j = g.anch id ∧ (gren g ord).U j :=
  ⟨by simp [gren, oldN_mem hnd h], id, h⟩
theorem gren_anch {ord : List (Nat × Nat)} (hnd : (ord.map (·.2)).Nodup) {id j : Nat} (h : lookN ord id = some j) : (gren g ord).anch j = g.anch id ∧ (gren g ord).U j := gren_mem hnd (lookN_mem _ _ _ h)
theorem renL_rel {g2 : Gh} {f : V → V} (hf : ∀ v x, RV C w g v x → RV C w g2 (f v) x) : ∀ (cs : List V) (vs : List Value), RVs C w g cs vs → RVs C w g2 (renL f cs) vs
  | [], _, h => by simp only [renL, RVs] at h ⊢; exact h
  | c :: cs, _, h => by
    simp only [renL, RVs] at h ⊢
    obtain ⟨x, xs, h1, h2, h3⟩ := h
    exact ⟨x, xs, h1, hf c x h2, renL_rel hf cs xs h3⟩
theorem renStep_rel {ord : List (Nat × Nat)} (hnd : (ord.map (·.2)).Nodup) {f : V → V} (hf : ∀ v x, RV C w g v x → RV C w (gren g ord) (f v) x) (v : V) (x : Value) (h : RV C w g v x) : RV C w (gren g ord) (renStep ord f v) x := by
  cases v <;> simp only [renStep]
  case any => simp [RV]
  case own id =>
    cases hi : lookN ord id with
    | none => simp [RV]
    | some j =>
      simp only [RV] at h ⊢
      exact ⟨(gren_anch (g := g) hnd hi).2, by rw [(gren_anch (g := g) hnd hi).1]; exact h.2.1, h.2.2⟩
  case ptr id col =>
    cases hi : lookN ord id with
    | none => simp [RV]
    | some j =>
      simp only [RV] at h ⊢
      exact ⟨(gren_anch (g := g) hnd hi).2, by rw [(gren_anch (g := g) hnd hi).1]; exact h.2⟩
  case ep id e r c =>
    cases hi : lookN ord id with
    | none => simp [RV]
    | some j =>
      simp only [RV] at h ⊢
      exact ⟨(gren_anch (g := g) hnd hi).2, by rw [(gren_anch (g := g) hnd hi).1]; exact h.2⟩
  case mp id =>
    cases hi : lookN ord id with
    | none => simp [RV]
    | some j =>
      simp only [RV] at h ⊢
      exact ⟨(gren_anch (g := g) hnd hi).2, by rw [(gren_anch (g := g) hnd hi).1]; exact h.2⟩
  case vw id e lo n fl =>
    cases hi : lookN ord id with
    | none => simp [RV]
    | some j =>
      simp only [RV] at h ⊢
      exact ⟨(gren_anch (g := g) hnd hi).2, by rw [(gren_anch (g := g) hnd hi).1]; exact h.2⟩
  case fn g' cs =>
    simp only [RV] at h ⊢
    obtain ⟨vs, h1, h2⟩ := h
    exact ⟨vs, h1, renL_rel hf cs vs h2⟩
  case agg cs =>
    simp only [RV] at h ⊢
    obtain ⟨vs, h1, h2⟩ := h
    exact ⟨vs, h1, renL_rel hf cs vs h2⟩
  case tup cs =>
    simp only [RV] at h ⊢
    obtain ⟨vs, h1, h2⟩ := h
    exact ⟨vs, h1, renL_rel hf cs vs h2⟩
  case rp cs =>
    simp only [RV] at h ⊢
    obtain ⟨a, vs, h1, h2, h3, h4⟩ := h
    exact ⟨a, vs, h1, h2, h3, renL_rel hf cs vs h4⟩
  case ifc t u =>
    simp only [RV] at h ⊢
    obtain ⟨y, h1, h2⟩ := h
    exact ⟨y, h1, hf _ _ h2⟩
  all_goals (simp only [RV] at h ⊢; exact h)
theorem renV_rel {ord : List (Nat × Nat)} (hnd : (ord.map (·.2)).Nodup) : ∀ (v : V) (x : Value), RV C w g v x → RV C w (gren g ord) (renV ord v) x :=
  renStep_rel hnd (renStep_rel hnd (renStep_rel hnd (renStep_rel hnd fun _ _ _ => by simp [RV])))
theorem renVs_rel {ord : List (Nat × Nat)} (hnd : (ord.map (·.2)).Nodup) (cs : List V) (vs : List Value) (h : RVs C w g cs vs) : RVs C w (gren g ord) (renVs ord cs) vs := renL_rel (renV_rel hnd) cs vs h
theorem renObj_rel {ord : List (Nat × Nat)} (hnd : (ord.map (·.2)).Nodup) {id j : Nat} (hj : (id, j) ∈ ord) {o : Obj} (h : RO C w g id o) : RO C w (gren g ord) j (renObj ord o) := by
  have ha : (gren g ord).anch j = g.anch id := (gren_mem hnd hj).1
  cases o with
  | box cs =>
    obtain ⟨blk, vs, te, h1, h2, h3, h4, h5⟩ := h
    exact ⟨blk, vs, te, by rw [ha]; exact h1, h2, renVs_rel hnd _ _ h3, h4, h5⟩
  | arr te e xs =>
    obtain ⟨cells, h1, h2, h3, h4⟩ := h
    exact ⟨cells, by rw [ha]; exact h1, h2, h3, fun b hb => h4 b (by rw [ha] at hb; exact hb)⟩
  | ice e xs =>
    simp only [renObj, RO] at h ⊢
    rw [ha]; exact h
  | map a b l =>
    simp only [renObj, RO] at h ⊢
    rw [ha]; exact h
  | raw te e xs =>
    simp only [renObj, RO] at h ⊢
    rw [ha]; exact h
  | xar te e xs =>
    simp only [renObj, RO] at h ⊢
    rw [ha]; exact h
  | arx te e rows =>
    simp only [renObj, RO] at h ⊢
    rw [ha]; exact h
theorem renObj_mut (ord : List (Nat × Nat)) (o : Obj) : (renObj ord o).mut = o.mut := by cases o <;> rfl
theorem renHeap_look (ord : List (Nat × Nat)) (h : Heap) : ∀ (l : List (Nat × Nat)) (k : Nat) (o : Obj), lookN (renHeap ord h l) k = some o → ∃ id o', (id, k) ∈ l ∧ lookN h id = some o' ∧ o = renObj ord o'
  | [], k, o, hk => by simp [renHeap, lookN] at hk
  | (n, j) :: r, k, o, hk => by
    have rec1 : lookN (renHeap ord h r) k = some o → ∃ id o', (id, k) ∈ (n, j) :: r ∧ lookN h id = some o' ∧ o = renObj ord o' := fun hk => by
      obtain ⟨id, o', h1, h2, h3⟩ := renHeap_look ord h r k o hk
      exact ⟨id, o', List.mem_cons_of_mem _ h1, h2, h3⟩
    simp only [renHeap] at hk
    split at hk
    · rename_i o1 ho1
      simp only [lookN] at hk
      cases hb : Nat.beq j k
      · rw [hb] at hk; exact rec1 hk
      · rw [hb] at hk
        simp only [Option.some.injEq] at hk
        obtain rfl := Nat.eq_of_beq_eq_true hb
        exact ⟨n, o1, List.mem_cons_self, ho1, hk.symm⟩
    · exact rec1 hk
theorem renHeap_len (ord : List (Nat × Nat)) (h : Heap) : ∀ (l : List (Nat × Nat)), presN h (l.map (·.1)) = true → (renHeap ord h l).length = l.length
  | [], _ => rfl
  | (n, j) :: r, hp => by
    simp only [List.map_cons, presN] at hp
    simp only [renHeap]
    cases ho : lookN h n with
    | none => simp [ho] at hp
    | some o => simp only [ho] at hp; simp [renHeap_len ord h r hp]
theorem nameL_fst : ∀ (k b : Nat) (l : List Nat), (nameL k b l).map (·.1) = l
  | _, _, [] => by simp [nameL]
  | 0, b, n :: r => by simp [nameL, nameL_fst 0 (b + 1) r]
  | k + 1, b, n :: r => by simp [nameL, nameL_fst k b r]
theorem nameL_snd : ∀ (k b : Nat) (l : List Nat), (nameL k b l).map (·.2) = l.take k ++ (List.range' b (l.length - k))
  | _, _, [] => by simp [nameL]
  | 0, b, n :: r => by
    simp only [nameL, List.map_cons, nameL_snd 0 (b + 1) r]
    simp [List.range'_succ]
  | k + 1, b, n :: r => by
    simp only [nameL, List.map_cons, nameL_snd k b r]
    simp
theorem allLt_iff : ∀ (b : Nat) (l : List Nat), allLt b l = true → ∀ a ∈ l, a < b
  | _, [], _, a, h => by simp at h
  | b, c :: r, hs, a, h => by
    simp only [allLt] at hs
    split at hs
    · rename_i hb
      rcases List.mem_cons.1 h with rfl | h
      · exact Nat.le_of_ble_eq_true hb
      · exact allLt_iff b r hs a h
    · simp at hs
theorem memN_iff : ∀ (l : List Nat) (n : Nat), memN l n = true ↔ n ∈ l
  | [], n => by simp [memN]
  | a :: r, n => by
    simp only [memN]
    cases hb : Nat.beq a n
    · have : a ≠ n := fun e => by subst e; simp at hb
      simp only [memN_iff r n, List.mem_cons]
      constructor
      · exact .inr
      · rintro (h | h)
        · exact absurd h.symm this
        · exact h
    · obtain rfl := Nat.eq_of_beq_eq_true hb
      simp
theorem nodupN_iff : ∀ (l : List Nat), nodupN l = true → l.Nodup
  | [], _ => by simp
  | a :: r, h => by
    simp only [nodupN] at h
    cases hm : memN r a
    · rw [hm] at h
      simp only at h
      refine List.nodup_cons.2 ⟨fun hmem => ?_, nodupN_iff r h⟩
      have := (memN_iff r a).2 hmem
      rw [hm] at this; simp at this
    · rw [hm] at h; simp at h
theorem keepEnv_look : ∀ (keep : List Nat) (env : Env) (t : Nat) (v : V), lookN (keepEnv env keep) t = some v → lookN env t = some v
  | [], env, t, v, h => by simp [keepEnv, lookN] at h
  | k :: r, env, t, v, h => by
    simp only [keepEnv] at h
    split at h
    · rename_i u hu
      simp only [lookN] at h
      cases hb : Nat.beq k t
      · rw [hb] at h; exact keepEnv_look r env t v h
      · rw [hb] at h
        simp only [Option.some.injEq] at h
        obtain rfl := Nat.eq_of_beq_eq_true hb
        subst h
        exact hu
    · exact keepEnv_look r env t v h
theorem normEnv_look (ord : List (Nat × Nat)) : ∀ (env : Env) (t : Nat) (v : V), lookN (normEnv ord env) t = some v → ∃ u, lookN env t = some u ∧ v = renV ord u
  | [], t, v, h => by simp [normEnv, lookN] at h
  | (k, u) :: r, t, v, h => by
    simp only [normEnv, lookN] at h
    simp only [lookN]
    cases hb : Nat.beq k t
    · rw [hb] at h; exact normEnv_look ord r t v h
    · rw [hb] at h
      simp only [Option.some.injEq] at h
      exact ⟨u, rfl, h.symm⟩

theorem closeK_out {h : Heap} {k : List Nat → Prop} : ∀ (n : Nat) (l : List Nat), closeK h n l k → ∃ ord, k ord
  | 0, l, hs => ⟨l, hs⟩
  | n + 1, l, hs => by
    simp only [closeK] at hs
    rw [forceNs_eq] at hs
    split at hs
    · exact ⟨l, hs⟩
    · exact closeK_out n _ hs
theorem prefN_take : ∀ (l m : List Nat), prefN l m = true → m.take l.length = l
  | [], m, _ => by simp
  | a :: r, [], h => by simp [prefN] at h
  | a :: r, b :: s, h => by
    simp only [prefN] at h
    split at h
    · rename_i hb
      obtain rfl := Nat.eq_of_beq_eq_true hb
      simp [prefN_take r s h]
    · cases h
theorem normK_sound {pins : Pins} (hpin : pins = C.pins) {keep : List Nat} {env : Env} {a : Act} (r : RelS C N n env h a w g) {K : St → Prop} (hs : normK pins keep env h K) : ∃ env' h' g', K ⟨env', h'⟩ ∧ RelS C N (frN pins h') env' h' a w g' := by
  unfold normK at hs
  rw [forceE_eq, forceNs_eq] at hs
  obtain ⟨ord0, hs⟩ := closeK_out _ _ hs
  split at hs
  · rename_i hb
    rw [forcePs_eq, forceE_eq, forceH_eq] at hs
    simp only [Bool.and_eq_true] at hb
    have hnd0 := nodupN_iff ord0 hb.2.1
    have hpre := prefN_take _ _ hb.1.2
    have hlt := allLt_iff _ _ hb.1.1
    have hle : pins.1.length ≤ ord0.length := by
      have := congrArg List.length hpre
      simp at this; omega
    have hnd : ((nameL pins.1.length pins.2 ord0).map (·.2)).Nodup := by
      rw [nameL_snd, hpre, List.nodup_append]
      refine ⟨?_, List.nodup_range', fun x hx y hy he => ?_⟩
      · rw [← hpre]; exact hnd0.sublist (List.take_sublist _ _)
      · have := hlt x hx
        rw [List.mem_range'] at hy
        obtain ⟨i, _, hy⟩ := hy
        omega
    have hfst := nameL_fst pins.1.length pins.2 ord0
    have hlenN : (nameL pins.1.length pins.2 ord0).length = ord0.length := by rw [← List.length_map (f := (·.1)), hfst]
    have hpres : presN h ((nameL pins.1.length pins.2 ord0).map (·.1)) = true := by rw [hfst]; exact hb.2.2
    have hsnd := nameL_snd pins.1.length pins.2 ord0
    revert hs
    generalize nameL pins.1.length pins.2 ord0 = ord at hnd hfst hlenN hpres hsnd ⊢
    intro hs
    have hidnd : ∀ {i j j' : Nat}, (i, j) ∈ ord → (i, j') ∈ ord → j = j' := fun {i j j'} h1 h2 => by
      obtain ⟨p, hp1, hp2⟩ := List.mem_iff_getElem.1 h1
      obtain ⟨q, hq1, hq2⟩ := List.mem_iff_getElem.1 h2
      have e1 : (ord.map (·.1))[p]? = some i := by simp [hp1, hp2]
      have e2 : (ord.map (·.1))[q]? = some i := by simp [hq1, hq2]
      rw [hfst] at e1 e2
      have hp0 : p < ord0.length := by omega
      have := (List.getElem?_inj hp0 hnd0).1 (e1.trans e2.symm)
      subst this
      rw [hp2] at hq2
      simp at hq2; exact hq2
    refine ⟨_, _, gren g ord, hs, ⟨⟨r.H.keep, r.H.size, r.H.os, r.H.tape, r.H.output, r.H.F, r.H.Fin, fun j hj => ?_, r.H.lam, fun j o hj => ?_, ?_⟩, fun t v ht => ?_, fun j hj => ?_, r.sz, r.df⟩⟩
    · rw [← hpin] at hj
      have h1 := r.H.pin j (by rw [← hpin]; exact hj)
      obtain ⟨i, hi1, hi2⟩ := List.mem_iff_getElem.1 hj
      have hmem : (j, j) ∈ ord := by
        have e1 : ord0[i]? = some j := by
          have : (ord0.take pins.1.length)[i]? = some j := by rw [hpre]; simp [hi1, hi2]
          rwa [List.getElem?_take_of_lt hi1] at this
        have e2 : (ord.map (·.2))[i]? = some j := by
          rw [hsnd, hpre, List.getElem?_append_left hi1]; simp [hi1, hi2]
        have e3 : (ord.map (·.1))[i]? = some j := by rw [hfst]; exact e1
        simp only [List.getElem?_map, Option.map_eq_some_iff] at e2 e3
        obtain ⟨⟨a1, b1⟩, q1, q2⟩ := e2
        obtain ⟨⟨a2, b2⟩, q3, q4⟩ := e3
        rw [q1] at q3
        simp at q3 q2 q4
        obtain ⟨rfl, rfl⟩ := q3
        subst q2; subst q4
        exact List.mem_iff_getElem?.2 ⟨i, q1⟩
      exact ⟨⟨j, hmem⟩, by rw [(gren_mem hnd hmem).1]; exact h1.2⟩
    · obtain ⟨id, o', h2, h3, h4⟩ := renHeap_look ord h ord j o hj
      subst h4
      exact ⟨⟨id, h2⟩, renObj_rel hnd h2 (r.H.obj id o' h3).2⟩
    · intro j1 o1 j2 o2 b hj1 hj2 hm1 hm2 hb1 hb2
      obtain ⟨id1, p1, q2, q3, q4⟩ := renHeap_look ord h ord j1 o1 hj1
      obtain ⟨id2, p2, s2, s3, s4⟩ := renHeap_look ord h ord j2 o2 hj2
      subst q4; subst s4
      rw [renObj_mut] at hm1 hm2
      rw [(gren_mem (g := g) hnd q2).1] at hb1
      rw [(gren_mem (g := g) hnd s2).1] at hb2
      have := r.H.sep id1 p1 id2 p2 b q3 s3 hm1 hm2 hb1 hb2
      subst this
      exact hidnd q2 s2
    · obtain ⟨u, hu, rfl⟩ := normEnv_look ord _ t v ht
      obtain ⟨x, h1, h2⟩ := r.E t u (keepEnv_look keep env t u hu)
      exact ⟨x, h1, renV_rel hnd u x h2⟩
    · unfold frN
      rw [renHeap_len ord h ord hpres, hlenN]
      obtain ⟨id, hm⟩ := hj
      have : j ∈ ord.map (·.2) := List.mem_map.2 ⟨_, hm, rfl⟩
      rw [hsnd, hpre] at this
      rcases List.mem_append.1 this with h1 | h1
      · have := hlt j h1; omega
      · rw [List.mem_range'] at h1
        obtain ⟨i, h2, h3⟩ := h1
        omega
  · exact hs.elim
end
end Go.Eng
