import Derived.Test.YtlfehkoklgmjjaaEngG
import Derived.Laws.OwnMore
/- Each operation does what the abstract step says: new blocks, stores. -/
set_option linter.unusedVariables false
set_option linter.unusedSimpArgs false
namespace Go.Eng
open Go.RowKit (Below)

section
variable {C : Cx} {w w' : World} {g g' : Gh} {h : Heap} {P : Program} {T : Tab} {fresh : Nat}

def upd (f : Nat → Value) (id : Nat) (v : Value) : Nat → Value := fun k => if k = id then v else f k
def Gh.new (g : Gh) (id : Nat) (v : Value) : Gh := ⟨upd g.anch id v, g.F, fun k => g.U k ∨ k = id⟩
theorem upd_same (f : Nat → Value) (id : Nat) (v : Value) : upd f id v id = v := by simp [upd]
theorem upd_other (f : Nat → Value) (id : Nat) (v : Value) {k : Nat} (h : k ≠ id) : upd f id v k = f k := by simp [upd, h]
theorem evo_new (hU : ¬ g.U fresh) (v : Value) (hb : ∀ b, g.F b → w'.heap[b]? = w.heap[b]?) : Evo w g w' (g.new fresh v) :=
  ⟨fun b hF => ⟨hF, hb b hF⟩, fun id hi => ⟨.inl hi, upd_other _ _ _ (fun e => hU (e ▸ hi))⟩⟩

/-- One new thing, in new blocks. -/
theorem QRes.one {o : Obj} {av x : Value} {v : V} (hU : ¬ g.U fresh) (hb : Below w.heap.size w w') (hF : ∀ b, g.F b → b < w.heap.size)
    (hv : RV C w' (g.new fresh av) v x) (ho : RO C w' (g.new fresh av) fresh o) (hblk : ∀ b, ablk av = some b → w.heap.size ≤ b) : QRes C w g fresh v [(fresh, o)] x w' (g.new fresh av) := by
  have e : Evo w g w' (g.new fresh av) := evo_new hU av (fun b h => hb.block b (hF b h))
  refine ⟨hb, fun b h => h, fun b h => .inl h, e.A, fun id h => ?_, hv, fun id o' h => ?_, ?_⟩
  · rcases h with h | rfl
    · exact .inl h
    · exact .inr ⟨Nat.le_refl _, by omega⟩
  · simp only [lookN] at h
    cases hq : Nat.beq fresh id
    · simp [hq] at h
    · simp only [hq, Option.some.injEq] at h
      subst h
      obtain rfl := Nat.eq_of_beq_eq_true hq
      exact ⟨⟨Nat.le_refl _, by omega⟩, .inr rfl, ho, fun b hb' => hblk b (by simpa [Gh.new, upd_same] using hb')⟩
  · intro id0 o1 id' o2 b h h' _ _ _ _
    simp only [lookN] at h h'
    cases hq : Nat.beq fresh id0 <;> simp [hq] at h
    cases hq' : Nat.beq fresh id' <;> simp [hq'] at h'
    exact (Nat.eq_of_beq_eq_true hq).symm.trans (Nat.eq_of_beq_eq_true hq')

theorem QRes.box {cs : List V} {vs : List Value} {te : TypeId} (R : RelH C h w g) (hU : ¬ g.U fresh) (hv : RVs C w g cs vs) (h1 : ∀ v ∈ vs, v.oneCell' = true) :
    QRes C w g fresh (.ptr fresh 0) [(fresh, .box cs)] (.pointer (some ⟨w.heap.size, 0, none⟩)) (w.alloc (.cells vs.toArray te)) (g.new fresh (.pointer (some ⟨w.heap.size, 0, none⟩))) := by
  have hb : Below w.heap.size w (w.alloc (.cells vs.toArray te)) := (Below.refl _ _).alloc (Nat.le_refl _) _
  refine QRes.one hU hb R.F ?_ ?_ (fun b hb => by simp [ablk] at hb; omega)
  · simp only [RV]
    exact ⟨.inr rfl, _, upd_same _ _ _, by simp [Addr.add]⟩
  · refine ⟨w.heap.size, vs, te, upd_same _ _ _, heap_alloc_new w _, RVs_mono (evo_new hU _ (fun b h => hb.block b (R.F b h))) _ _ hv, h1, .inr R.size, fun hF => ?_⟩
    have := R.F _ hF
    omega

theorem QRes.arr {te : TypeId} {e : Ty} {xs : List e.den} {x : Value} {cells : List Value} (R : RelH C h w g) (hU : ¬ g.U fresh) (hb : Below w.heap.size w w')
    (hown : w'.ownsRow w.heap.size te e.cells x xs.length cells) (hr : reps w g.F e xs cells) (h0 : 0 < e.cells) (hx : ∃ A n c, x = .slice A n c) :
    QRes C w g fresh (.own fresh) [(fresh, .arr te e xs)] x w' (g.new fresh x) := by
  have hblk : ∀ b, ablk x = some b → w.heap.size ≤ b := fun b hb' => by
    rcases hown.2 with ⟨rfl, _⟩ | ⟨gg, cap, cur, rfl, hge, _⟩
    · simp [ablk] at hb'
    · simp [ablk] at hb'; omega
  refine QRes.one hU hb R.F ?_ ?_ hblk
  · simp only [RV]
    exact ⟨.inr rfl, (upd_same _ _ _).symm, hx⟩
  · refine ⟨cells, ?_, reps_mono (fun b hF => ⟨hF, hb.block b (R.F b hF)⟩) e xs cells hr, h0, fun b hb' => ?_⟩
    · rw [show (g.new fresh x).anch fresh = x from upd_same _ _ _]
      refine ⟨hown.1, ?_⟩
      rcases hown.2 with hn | ⟨gg, cap, cur, hv, _, rest⟩
      · exact .inl hn
      · exact .inr ⟨gg, cap, cur, hv, Nat.zero_le _, rest⟩
    · rw [show (g.new fresh x).anch fresh = x from upd_same _ _ _] at hb'
      have := hblk b hb'
      refine ⟨.inr (Nat.le_trans R.size this), fun hF => ?_⟩
      have := R.F b hF
      omega

/-! ## Zero values -/
theorem zero_cell {v : Value} (h : (zeroV (zcOf v)).one = true) : RV C w g (zeroV (zcOf v)) v := by
  unfold zcOf at h ⊢
  split <;> simp [zeroV, RV] at h ⊢
  · rename_i k
    cases k <;> simp [IntKind.min, IntKind.max, IntKind.signed, IntKind.bits]
  all_goals (simp [V.one] at h)
theorem zero_cells : ∀ (vs : List Value), ((vs.map zcOf).map zeroV).all V.one = true → RVs C w g ((vs.map zcOf).map zeroV) vs
  | [], _ => by simp [RVs]
  | v :: vs, h => by
    simp only [List.map_cons, List.all_cons, Bool.and_eq_true] at h
    simp only [List.map_cons, RVs]
    exact ⟨v, vs, rfl, zero_cell h.1, zero_cells vs (by simpa using h.2)⟩

/-! ## Pieces put in -/
theorem foldl_set : ∀ (vs : List Value) (off k : Nat) (cells : Array Value), off + k + vs.length ≤ cells.size →
    (vs.zipIdx k).foldl (fun cs (p : Value × Nat) => cs.setIfInBounds (off + p.2) p.1) cells = (cells.toList.take (off + k) ++ vs ++ cells.toList.drop (off + k + vs.length)).toArray
  | [], off, k, cells, _ => by simp
  | v :: vs, off, k, cells, h => by
    simp only [List.zipIdx_cons, List.foldl_cons]
    rw [foldl_set vs off (k + 1) _ (by simp at h ⊢; omega)]
    congr 1
    simp only [List.length_cons] at h ⊢
    have hlt : off + k < cells.toList.length := by simp only [Array.length_toList]; omega
    rw [Array.toList_setIfInBounds, List.take_set, List.drop_set]
    rw [if_pos (by omega)]
    have ht : (cells.toList.take (off + (k + 1))).set (off + k) v = cells.toList.take (off + k) ++ [v] := by
      have hlen : (cells.toList.take (off + k)).length = off + k := by rw [List.length_take]; omega
      rw [show off + (k + 1) = (off + k) + 1 by omega, List.take_succ_eq_append_getElem hlt, List.set_append_right _ _ (by omega), hlen, Nat.sub_self]
      rfl
    rw [ht]
    simp only [List.append_assoc, List.cons_append, List.nil_append]
    rw [show off + (k + 1) + vs.length = off + k + (vs.length + 1) from by omega]

theorem setAt_len {α : Type} (cs news : List α) (off : Nat) (h : off + news.length ≤ cs.length) : (cs.take off ++ news ++ cs.drop (off + news.length)).length = cs.length := by
  simp; omega
theorem RVs_setAt {cs ns : List V} {vs us : List Value} (h1 : RVs C w g cs vs) (h2 : RVs C w g ns us) (off : Nat) : RVs C w g (setAt cs off ns) (vs.take off ++ us ++ vs.drop (off + us.length)) := by
  unfold setAt
  rw [RVs_len h2]
  exact RVs_append (RVs_append (RVs_take off h1) h2) (RVs_drop _ h1)
theorem one_setAt {vs us : List Value} (h1 : ∀ v ∈ vs, v.oneCell' = true) (h2 : ∀ v ∈ us, v.oneCell' = true) (off n : Nat) : ∀ v ∈ vs.take off ++ us ++ vs.drop n, v.oneCell' = true := by
  intro v hv
  rcases List.mem_append.1 hv with hv | hv
  · rcases List.mem_append.1 hv with hv | hv
    · exact h1 v (List.mem_of_mem_take hv)
    · exact h2 v hv
  · exact h1 v (List.mem_of_mem_drop hv)

def PartsRel (C : Cx) (w : World) (g : Gh) : List (Nat × V) → List (Nat × Value) → Prop
  | [], ys => ys = []
  | (j, v) :: r, ys => ∃ x rest, ys = (j, x) :: rest ∧ RV C w g v x ∧ PartsRel C w g r rest
theorem fillV_sound {places : Nat → Option (Nat × Nat)} : ∀ (parts : List (Nat × V)) (ys : List (Nat × Value)) (cs cs' : List V) (vs : Array Value), fillV places parts cs = some cs' → PartsRel C w g parts ys →
    RVs C w g cs vs.toList → (∀ v ∈ vs.toList, v.oneCell' = true) → ∃ us : Array Value, Instr.fill places vs ys = some us ∧ RVs C w g cs' us.toList ∧ (∀ v ∈ us.toList, v.oneCell' = true) ∧ us.size = vs.size
  | [], ys, cs, cs', vs, hs, hp, hv, h1 => by
    simp only [PartsRel] at hp
    subst hp
    simp [fillV] at hs
    subst hs
    exact ⟨vs, rfl, hv, h1, rfl⟩
  | (j, v) :: r, ys, cs, cs', vs, hs, hp, hv, h1 => by
    simp only [PartsRel] at hp
    obtain ⟨x, rest, rfl, hx, hrest⟩ := hp
    simp only [fillV] at hs
    cases hpl : places j with
    | none => simp [hpl] at hs
    | some p =>
      obtain ⟨off, size⟩ := p
      simp only [hpl] at hs
      cases hb : (Nat.beq v.cells.length size && v.cells.all V.one && Nat.ble (off + size) cs.length)
      · simp [hb] at hs
      · simp only [hb] at hs
        simp only [Bool.and_eq_true] at hb
        have e1 := Nat.eq_of_beq_eq_true hb.1.1
        have e3 := Nat.le_of_ble_eq_true hb.2
        have hc := RV_cells hx hb.1.2
        have hone := RVs_one hb.1.2 hc
        have hxl : x.cells.size = size := by have := RVs_len hc; simp at this; omega
        have hvl := RVs_len hv
        simp only [Array.length_toList] at hvl
        have hfold : x.cells.zipIdx.foldl (fun cs (p : Value × Nat) => cs.setIfInBounds (off + p.2) p.1) vs = (vs.toList.take off ++ x.cells.toList ++ vs.toList.drop (off + x.cells.toList.length)).toArray := by
          have := foldl_set x.cells.toList off 0 vs (by simp; omega)
          rw [← Array.foldl_toList, Array.toList_zipIdx]
          simpa using this
        obtain ⟨us, h2, h3, h4, h5⟩ := fillV_sound r rest _ cs' (vs.toList.take off ++ x.cells.toList ++ vs.toList.drop (off + x.cells.toList.length)).toArray hs hrest
          (by simpa using RVs_setAt hv hc off) (by simpa using one_setAt h1 hone off _)
        refine ⟨us, ?_, h3, h4, ?_⟩
        · simp only [Instr.fill, hpl]
          rw [if_neg (by simp; omega)]
          rw [← h2]
          congr 1
        · rw [h5]
          have := setAt_len vs.toList x.cells.toList off (by simp; omega)
          simpa using this

theorem partsRel_map {env : Env} {a : Act} (R : RelE C env a.tmps w g) : ∀ (ps : List (Nat × Operand)), PartsRel C w g (ps.map fun p => (p.1, rd env p.2)) (ps.map fun p => (p.1, a.eval p.2))
  | [] => by simp [PartsRel]
  | p :: ps => by simp only [List.map_cons, PartsRel]; exact ⟨_, _, rfl, rd_rel R p.2, partsRel_map R ps⟩

theorem placesT_sound (hT : TabOk P T) : ∀ (gs : List Field) (ps : List (Nat × Nat)), placesT T (gs.map fun f => (f.type, f.offset)) = some ps →
    gs.mapM (fun f => (P.info? f.type).map fun i => (f.offset, i.size)) = some ps
  | [], ps, h => by simp [placesT] at h; subst h; rfl
  | f :: gs, ps, h => by
    simp only [List.map_cons, placesT] at h
    cases hi : T.ti f.type with
    | none => simp [hi] at h
    | some i =>
      cases hr : placesT T (gs.map fun f => (f.type, f.offset)) with
      | none => simp [hi, hr] at h
      | some qs =>
        simp only [hi, hr, Option.some.injEq] at h
        subst h
        obtain ⟨inf, u, z, g1, g2, g3, g4, g5, g6⟩ := ti_of hT hi
        simp [List.mapM_cons, g1, g5, placesT_sound hT gs qs hr]

theorem buildV_sound (hT : TabOk P T) {t : TypeId} {parts : List (Nat × V)} {ys : List (Nat × Value)} {c : List Prop} {v : V} {news : Heap} (hs : buildV T t parts = some (c, v, news)) (hp : PartsRel C w g parts ys) :
    news = [] ∧ ∃ val, (Instr.build t ys.toArray).run P w = .ok val w ∧ RV C w g v val := by
  unfold buildV at hs
  cases hti : T.ti t with
  | none => simp [hti] at hs
  | some i =>
    obtain ⟨d, size, bytes, zero, row, eqk⟩ := i
    obtain ⟨inf, u, z, g1, g2, g3, g4, g5, g6, g7, g8, g9⟩ := ti_of hT hti
    cases d <;> simp only [hti] at hs
    all_goals try (simp at hs; done)
    case struct fs =>
    obtain ⟨gs, rfl, hgs⟩ := und_struct g4
    cases hpl : placesT T fs with
    | none => simp [hpl] at hs
    | some ps =>
    simp only [hpl] at hs
    split at hs
    · rename_i cs hcs
      cases hone : (zero.map zeroV).all V.one
      · simp [hone] at hs
      simp only [hone, Option.some.injEq, Prod.mk.injEq] at hs
      obtain ⟨rfl, rfl, rfl⟩ := hs
      have g7' : z.cells.toList.map zcOf = zero := g7
      rw [← g7'] at hcs hone
      have hz := zero_cells (C := C) (w := w) (g := g) z.cells.toList hone
      obtain ⟨us, h2, h3, h4, h5⟩ := fillV_sound parts ys _ cs z.cells hcs hp hz (RVs_one hone hz)
      rw [← hgs] at hpl
      have hb : P.built t ys = some us := by
        unfold Program.built
        simp only [g1, g2, g3, placesT_sound hT _ _ hpl]
        rw [← h2]
        congr 1
        funext j
        simp
      have := run_build (P := P) w t ys.toArray us (by simpa using hb)
      exact ⟨rfl, .agg us, this, by simp only [RV]; exact ⟨us.toList, by simp, h3⟩⟩
    · simp at hs

/-! ## Rows out of cells -/
theorem toRows_sound (R : RelH C h w g) (e : Ty) : ∀ (n : Nat) (cs : List V) (xs : List e.den) (vs : List Value), toRows h e n cs = some xs → RVs C w g cs vs → reps w g.F e xs vs ∧ xs.length = n
  | 0, [], xs, vs, hs, hv => by
    simp [toRows] at hs
    subst hs
    simp only [RVs] at hv
    subst hv
    exact ⟨rfl, rfl⟩
  | 0, c :: cs, xs, vs, hs, hv => by simp [toRows] at hs
  | n + 1, cs, xs, vs, hs, hv => by
    simp only [toRows] at hs
    cases hd : toDen h false e cs with
    | none => simp [hd] at hs
    | some p =>
      obtain ⟨x, r⟩ := p
      simp only [hd] at hs
      cases hr : toRows h e n r with
      | none => simp [hr] at hs
      | some ys =>
        simp only [hr, Option.some.injEq] at hs
        subst hs
        obtain ⟨us, ts, rfl, h1, h2⟩ := toDen_sound R e cs x r vs hd hv
        obtain ⟨h3, h4⟩ := toRows_sound R e n r ys ts hr h2
        exact ⟨⟨us, ts, rfl, rep_mono (fun b hb => ⟨by simpa [Fown] using hb, rfl⟩) e x us h1, h3⟩, by simp [h4]⟩

theorem repL_len {α : Type} (l : List α) : ∀ n, (repL l n).length = n * l.length
  | 0 => by simp [repL]
  | n + 1 => by simp [repL, repL_len l n, Nat.add_mul, Nat.add_comm]
theorem repL_get {α : Type} (l : List α) : ∀ (n j : Nat), j < n * l.length → (repL l n)[j]? = l[j % l.length]?
  | 0, j, h => by simp at h
  | n + 1, j, h => by
    simp only [repL]
    by_cases hj : j < l.length
    · rw [List.getElem?_append_left hj, Nat.mod_eq_of_lt hj]
    · rw [List.getElem?_append_right (by omega), repL_get l n _ (by rw [Nat.add_mul] at h; omega)]
      congr 1
      rw [Nat.mod_eq_sub_mod (by omega : j ≥ l.length)]
theorem madeCells_eq (z : Array Value) (n : Nat) : (madeCells z (n * z.size)).toList = repL z.toList n := by
  apply List.ext_getElem?
  intro j
  by_cases hj : j < n * z.size
  · rw [repL_get _ _ _ (by simpa using hj)]
    have hz : 0 < z.size := by
      rcases Nat.eq_zero_or_pos z.size with h | h
      · rw [h] at hj; simp at hj
      · exact h
    have hm : j % z.size < z.size := Nat.mod_lt _ hz
    simp [madeCells, hj, hm]
  · rw [List.getElem?_eq_none (by simp [madeCells]; omega), List.getElem?_eq_none (by rw [repL_len]; simp; omega)]
theorem RVs_repL {cs : List V} {vs : List Value} (h : RVs C w g cs vs) : ∀ n, RVs C w g (repL cs n) (repL vs n)
  | 0 => by simp [repL, RVs]
  | n + 1 => RVs_append h (RVs_repL h n)
theorem one_repL {vs : List Value} (h : ∀ v ∈ vs, v.oneCell' = true) : ∀ n, ∀ v ∈ repL vs n, v.oneCell' = true
  | 0, v, hv => by simp [repL] at hv
  | n + 1, v, hv => by
    simp only [repL] at hv
    rcases List.mem_append.1 hv with hv | hv
    · exact h v hv
    · exact one_repL h n v hv
theorem reps_replicate {F : Nat → Prop} {e : Ty} {z : e.den} {cs : List Value} (h : rep w F e z cs) : ∀ n, reps w F e (List.replicate n z) (repL cs n)
  | 0 => rfl
  | n + 1 => ⟨cs, repL cs n, rfl, h, reps_replicate h n⟩
theorem map_repL {α β : Type} (f : α → β) (l : List α) : ∀ n, (repL l n).map f = repL (l.map f) n
  | 0 => rfl
  | n + 1 => by simp [repL, map_repL f l n]

/-- The first rows of a block. -/
theorem ownsRow_new {te : TypeId} {size : Nat} (cur : Array Value) (n cap : Nat) (hc : n ≤ cap) (hm : cap ≤ maxLen) (hs : cur.size = cap * size) {w1 : World} (hg : w1.heap[w.heap.size]? = some (.cells cur te (0, 0))) :
    w1.ownsRow w.heap.size te size (.slice (some ⟨w.heap.size, 0, none⟩) n cap) n (cur.toList.take (n * size)) := by
  refine ⟨?_, .inr ⟨w.heap.size, cap, cur, rfl, Nat.le_refl _, hg, hc, hm, hs, rfl⟩⟩
  have : n * size ≤ cap * size := Nat.mul_le_mul_right _ hc
  simp; omega

theorem makeSliceV_sound (hT : TabOk P T) (R : RelH C h w g) (hf : FreshIds g fresh) {t : TypeId} {l cp v : V} {lx cx : Value} {c : List Prop} {news : Heap} (hs : makeSliceV T t l cp fresh = some (c, v, news)) (hc : ∀ p ∈ c, p)
    (hl : RV C w g l lx) (hcp : RV C w g cp cx) : ∃ val w' g', (Instr.makeSlice t lx cx).run P w = .ok val w' ∧ QRes C w g fresh v news val w' g' := by
  unfold makeSliceV at hs
  cases he : elemT T t with
  | none => simp [he] at hs
  | some p =>
    obtain ⟨te, e, bytes, zero⟩ := p
    obtain ⟨inf, z, g1, g2, g3, g4, g5, g6, g7, g8, g9⟩ := elem_of hT he
    cases l <;> simp only [he] at hs
    all_goals try (simp at hs; done)
    case i k1 n =>
    cases cp <;> simp only at hs
    all_goals try (simp at hs; done)
    case i k2 m =>
    split at hs
    · rename_i z' hone hden
      simp only [Option.some.injEq, Prod.mk.injEq] at hs
      obtain ⟨rfl, rfl, rfl⟩ := hs
      simp only [RV] at hl hcp
      obtain ⟨rfl, _⟩ := hl
      obtain ⟨rfl, _⟩ := hcp
      have c1 : 0 ≤ n := hc _ (by simp)
      have c2 : n ≤ m := hc _ (by simp)
      have c3 : m * bytes ≤ 140737488355328 := hc _ (by simp)
      have c4 : m ≤ 140737488355328 := hc _ (by simp)
      have hmk := run_make (P := P) w t te inf z g1 g2 g5 k1 k2 n m c1 c2 (by rw [g4, Int.mul_comm]; omega) (by omega)
      have R0 : RelH C [] w g := ⟨R.keep, R.size, R.os, R.tape, R.output, R.F, R.Fin, R.pin, R.lam, fun _ _ h => by simp [lookN] at h, fun _ _ _ _ _ h => by simp [lookN] at h⟩
      rw [← g6] at hden hone
      have hzc := zero_cells (C := C) (w := w) (g := g) z.cells.toList hone
      have hrep := toDen_all R0 hden hzc
      have hb : Below w.heap.size w (w.alloc (.cells (madeCells z.cells (m.toNat * inf.size)) te)) := (Below.refl _ _).alloc (Nat.le_refl _) _
      have hsz : (madeCells z.cells (m.toNat * inf.size)).size = m.toNat * e.cells := by rw [size_madeCells, g3]
      have hown := ownsRow_new (w := w) (w1 := w.alloc (.cells (madeCells z.cells (m.toNat * inf.size)) te)) (te := te) _ n.toNat m.toNat (by omega) (by simp only [maxLen]; omega) hsz (heap_alloc_new w _)
      have hcells : (madeCells z.cells (m.toNat * inf.size)).toList.take (n.toNat * e.cells) = repL z.cells.toList n.toNat := by
        rw [g3, ← g8, madeCells_eq]
        have hle : n.toNat * z.cells.size ≤ m.toNat * z.cells.size := Nat.mul_le_mul_right _ (by omega)
        apply List.ext_getElem?
        intro j
        by_cases hj : j < n.toNat * z.cells.size
        · rw [List.getElem?_take_of_lt hj, repL_get _ _ _ (by simp; omega), repL_get _ _ _ (by simpa using hj)]
        · rw [List.getElem?_eq_none (by rw [List.length_take]; omega), List.getElem?_eq_none (by rw [repL_len]; simp; omega)]
      rw [hcells] at hown
      refine ⟨_, _, _, hmk, QRes.arr (cells := repL z.cells.toList n.toNat) R (hf fresh (Nat.le_refl _) (by omega)) hb (by simpa using hown) (reps_replicate hrep _) g7 ⟨_, _, _, rfl⟩⟩
    · simp at hs

theorem run_buildSlice {t te : TypeId} {inf : TypeInfo} {z : Value} {len : Nat} {ys : List (Nat × Value)} {us : Array Value} (h1 : P.underlying t = some (.slice te)) (h2 : P.info? te = some inf) (h3 : inf.zero = some z) (hz : z.cells.size = inf.size) (h0 : 0 < inf.size)
    (hle : len * inf.size ≤ 16777216) (hfill : Instr.fill (fun i => some (i * inf.size, inf.size)) (repL z.cells.toList len).toArray ys = some us) :
    (Instr.buildSlice t len ys.toArray).run P w = .ok (.slice (some ⟨w.heap.size, 0, none⟩) len len) (w.alloc (.cells us te)) := by
  have hcells : ((Array.range (len * inf.size)).map (z.cells[· % z.cells.size]!)) = (repL z.cells.toList len).toArray := by
    have := madeCells_eq z.cells len
    rw [hz] at this
    apply Array.ext'
    simpa [madeCells] using this
  have hn : ¬ (16777216 < len * inf.size) := by omega
  by_cases hl : len = 0
  · subst hl
    simp only [repL, List.toArray] at hfill
    simp [Instr.buildSlice, run_underlying h1, sizeOf, typeInfo, h2, zeroValue, h3]
    have e0 : Array.map (fun _ => (default : Value)) (Array.range 0) = (⟨[]⟩ : Array Value) := by simp
    rw [e0, hfill]
    simp [newRow, run_newObj]
  · have hne : ¬ (len * inf.size = 0) := by
      intro h
      rcases Nat.mul_eq_zero.1 h with h | h <;> omega
    simp [Instr.buildSlice, run_underlying h1, sizeOf, typeInfo, h2, zeroValue, h3, hn, hne]
    rw [hcells]
    simp [hfill, newRow, run_newObj]

theorem buildSliceQ_sound (hT : TabOk P T) (R : RelH C h w g) (hf : FreshIds g fresh) {t : TypeId} {len : Nat} {parts : List (Nat × V)} {ys : List (Nat × Value)} {c : List Prop} {v : V} {news : Heap}
    (hs : buildSliceV T false t len parts fresh h = some (c, v, news)) (hp : PartsRel C w g parts ys) :
    ∃ val w' g', (Instr.buildSlice t len ys.toArray).run P w = .ok val w' ∧ QRes C w g fresh v news val w' g' := by
  unfold buildSliceV at hs
  cases he : elemT T t with
  | none => simp [he] at hs
  | some p =>
    obtain ⟨te, e, bytes, zero⟩ := p
    obtain ⟨inf, z, g1, g2, g3, g4, g5, g6, g7, g8, g9⟩ := elem_of hT he
    simp only [he] at hs
    split at hs
    · rename_i cs hcs hb
      simp only [Bool.and_eq_true] at hb
      have hle := Nat.le_of_ble_eq_true hb.1
      split at hs
      · rename_i xs hxs
        simp only [Option.some.injEq, Prod.mk.injEq] at hs
        obtain ⟨rfl, rfl, rfl⟩ := hs
        have hone := hb.2
        rw [← g6] at hcs hone
        have hz := zero_cells (C := C) (w := w) (g := g) z.cells.toList hone
        obtain ⟨us, h2, h3, h4, h5⟩ := fillV_sound parts ys _ cs (repL z.cells.toList len).toArray hcs hp (by simpa using RVs_repL hz len) (by simpa using one_repL (RVs_one hone hz) len)
        have hfun : (fun i => some (i * inf.size, inf.size) : Nat → Option (Nat × Nat)) = fun j => some (j * e.cells, e.cells) := by rw [g3]
        have hrun := run_buildSlice (P := P) (w := w) g1 g2 g5 (g8.trans g3.symm) (by omega) (by rw [g3]; exact hle) (by rw [hfun]; exact h2)
        obtain ⟨h6, h7⟩ := toRows_sound R e len cs xs us.toList hxs h3
        have hbel : Below w.heap.size w (w.alloc (.cells us te)) := (Below.refl _ _).alloc (Nat.le_refl _) _
        have hsz : us.size = len * e.cells := by rw [h5]; simp [repL_len, g8]
        have hlen : len ≤ 16777216 := by
          have : len * 1 ≤ len * e.cells := Nat.mul_le_mul_left _ g7
          omega
        have hown := ownsRow_new (w := w) (w1 := w.alloc (.cells us te)) (te := te) us len len (Nat.le_refl _) (by simp only [maxLen]; omega) hsz (heap_alloc_new w _)
        rw [List.take_of_length_le (by simp; omega)] at hown
        exact ⟨_, _, _, hrun, QRes.arr R (hf fresh (Nat.le_refl _) (by omega)) hbel (by rw [h7]; exact hown) h6 g7 ⟨_, _, _, rfl⟩⟩
      · simp at hs
    · simp at hs

/-! ## Conversions -/
theorem bytes_rows {F : Nat → Prop} : ∀ (xs : List Int) (cells : List Value), reps w F (.int .u8) xs cells → cells = xs.map (Value.int .u8)
  | [], _, h => by simp only [reps] at h; subst h; rfl
  | x :: xs, _, ⟨c, r, h0, h1, h2⟩ => by
    simp only [rep] at h1
    rw [h0, h1.1, bytes_rows xs r h2]
    rfl
theorem rows_bytes {F : Nat → Prop} : ∀ (xs : List Int), (∀ x ∈ xs, 0 ≤ x ∧ x ≤ 255) → reps w F (.int .u8) xs (xs.map (Value.int .u8))
  | [], _ => rfl
  | x :: xs, h => by
    refine ⟨[.int .u8 x], xs.map (Value.int .u8), rfl, ?_, rows_bytes xs fun y hy => h y (by simp [hy])⟩
    have := h x (by simp)
    simp only [rep, true_and]
    simpa [IntKind.min, IntKind.max, IntKind.signed, IntKind.bits] using this
theorem foldl_push : ∀ (xs : List Int) (s : List UInt8), xs.foldl (fun r n => r.push (UInt8.ofNat n.toNat)) (⟨⟨s⟩⟩ : ByteArray) = ⟨⟨s ++ strOfBytes xs⟩⟩
  | [], s => by simp [strOfBytes]
  | x :: xs, s => by
    simp only [List.foldl_cons]
    have : (⟨⟨s⟩⟩ : ByteArray).push (UInt8.ofNat x.toNat) = ⟨⟨s ++ [UInt8.ofNat x.toNat]⟩⟩ := by
      simp [ByteArray.push]
    rw [this, foldl_push xs]
    simp [strOfBytes]

theorem convV_sound (hT : TabOk P T) (R : RelH C h w g) {src dst : TypeId} {a v : V} {x : Value} {c : List Prop} {news : Heap} (hs : convV T src dst a h = some (c, v, news)) (hc : ∀ p ∈ c, p) (ha : RV C w g a x) :
    ∃ val w' g', (convert src dst x).run P w = .ok val w' ∧ QRes C w g fresh v news val w' g' := by
  unfold convV at hs
  cases hsi : T.ti src with
  | none => simp [hsi] at hs
  | some si =>
    cases hdi : T.ti dst with
    | none => simp [hsi, hdi] at hs
    | some di =>
      obtain ⟨inf, u, z, g1, g2, g3, g4, g5⟩ := ti_of hT hsi
      obtain ⟨inf', u', z', k1, k2, k3, k4, k5⟩ := ti_of hT hdi
      simp only [hsi, hdi] at hs
      have toStr : ∀ (te : TypeId), si.d = .slice te → di.d = .str → (match T.ti te with
          | some ⟨.int .u8, _, _, _, _, _⟩ => match viewL h true (.int .u8) a with
            | some xs => some ([], V.s (strOfBytes xs), ([] : Heap))
            | none => none
          | _ => none) = some (c, v, news) → ∃ val w' g', (convert src dst x).run P w = .ok val w' ∧ QRes C w g fresh v news val w' g' := by
        intro te hsd hdd hs
        rw [hsd] at g4
        rw [hdd] at k4
        obtain rfl := und_slice g4
        obtain rfl := und_str k4
        split at hs
        · rename_i _ _ _ _ _ hte
          obtain ⟨inf2, u2, z2, m1, m2, m3, m4, m5⟩ := ti_of hT hte
          obtain rfl := und_int m4
          split at hs
          · rename_i xs hxs
            simp only [Option.some.injEq, Prod.mk.injEq] at hs
            obtain ⟨rfl, rfl, rfl⟩ := hs
            obtain ⟨A, cap, cells, q, _⟩ := viewL_sound R hxs ha
            have hrow := bytes_rows xs cells q.rows
            have hlen : (strOfBytes xs).length ≤ maxLen := by have := q.le; have := q.max; simp [strOfBytes]; omega
            have hv : RV C w g (.s (strOfBytes xs)) (.string ⟨⟨strOfBytes xs⟩⟩) := by simp only [RV, true_and]; exact hlen
            refine ⟨_, w, g, ?_, QRes.pure hv⟩
            rw [q.val, run_convert_bytes_string w src dst te A _ _ g2 m2 k2]
            cases A with
            | none =>
              have h0 := q.nil rfl
              have h1 := q.le
              have : xs = [] := List.eq_nil_of_length_eq_zero (by omega)
              subst this
              simp only [Conv.bytesToString, strOfBytes, List.map_nil]
              rfl
            | some ad =>
              have hl := run_loadCells_list (P := P) w ad cells (q.cell ad rfl)
              have hcl : cells.length = xs.length := by rw [hrow]; simp
              rw [hcl, hrow] at hl
              rw [run_bytesToString w ad xs.length cap xs hl]
              have := foldl_push xs []
              rw [List.nil_append] at this
              exact congrArg (fun s => Result.ok (Value.string s) w) this
          · simp at hs
        · simp at hs
      cases hdd : di.d <;> simp only [hdd] at hs
      all_goals try (cases a <;> simp at hs; done)
      case int k =>
        rw [hdd] at k4
        obtain rfl := und_int k4
        cases a <;> simp only at hs
        all_goals try (simp at hs; done)
        simp only [Option.some.injEq, Prod.mk.injEq] at hs
        obtain ⟨rfl, rfl, rfl⟩ := hs
        simp only [RV] at ha
        obtain ⟨rfl, _⟩ := ha
        refine ⟨_, w, g, ?_, QRes.pure (RV_wrap k _)⟩
        cases u <;> simp [convert, run_underlying g2, run_underlying k2, Conv.intToInt]
      case str =>
        cases a
        case s l =>
          simp only at hs
          cases hsd : si.d <;> simp only [hsd] at hs
          all_goals try (simp at hs; done)
          simp only [Option.some.injEq, Prod.mk.injEq] at hs
          obtain ⟨rfl, rfl, rfl⟩ := hs
          rw [hsd] at g4
          rw [hdd] at k4
          obtain rfl := und_str g4
          obtain rfl := und_str k4
          have ha' := ha
          simp only [RV] at ha
          obtain ⟨rfl, _⟩ := ha
          exact ⟨_, w, g, by simp [convert, run_underlying g2, run_underlying k2], QRes.pure ha'⟩
        all_goals
          simp only at hs
          cases hsd : si.d <;> simp only [hsd] at hs
          all_goals try (simp at hs; done)
          exact toStr _ hsd hdd hs
      case slice te =>
        cases a <;> simp only at hs
        all_goals try (simp at hs; done)
        case s l =>
        cases hsd : si.d <;> simp only [hsd] at hs
        all_goals try (simp at hs; done)
        split at hs
        · rename_i _ _ _ _ _ _ hte
          obtain ⟨inf2, u2, z2, m1, m2, m3, m4, m5⟩ := ti_of hT hte
          obtain rfl := und_int m4
          simp only [Option.some.injEq, Prod.mk.injEq] at hs
          obtain ⟨rfl, rfl, rfl⟩ := hs
          rw [hsd] at g4
          rw [hdd] at k4
          obtain rfl := und_str g4
          obtain rfl := und_slice k4
          simp only [RV] at ha
          obtain ⟨rfl, hl⟩ := ha
          have hrun := run_bytes_of_string (P := P) w src dst te ⟨⟨l⟩⟩ g2 k2 m2
          have hsz : (⟨⟨l⟩⟩ : ByteArray).size = l.length := rfl
          rw [hsz] at hrun
          generalize hcap : grownCap w l.length 0 te = cap at hrun
          have hge : l.length ≤ cap := by rw [← hcap]; exact grownCap_ge _ _ _ _
          have hcm : cap ≤ maxLen := by rw [← hcap]; exact grownCap_le_maxLen _ _ _ _ hl
          generalize hw1 : w.drew.alloc (.cells (bytesRow ⟨⟨l⟩⟩ cap) te ((bytesRow ⟨⟨l⟩⟩ cap).size, (bytesRow ⟨⟨l⟩⟩ cap).size + 1)) = w1 at hrun
          have hb : Below w.heap.size w w1 := by rw [← hw1]; exact ((Below.refl _ _).drew).alloc (Nat.le_refl _) _
          have hblk : w1.heap[w.heap.size]? = some (.cells (bytesRow ⟨⟨l⟩⟩ cap) te ((bytesRow ⟨⟨l⟩⟩ cap).size, (bytesRow ⟨⟨l⟩⟩ cap).size + 1)) := by rw [← hw1]; exact heap_alloc_new w.drew _
          let g1' : Gh := ⟨g.anch, fun b => g.F b ∨ b = w.heap.size, g.U⟩
          have hbl : (bytesOfStr l).length = l.length := by simp [bytesOfStr]
          have hrep : rep w1 g1'.F (.slice (.int .u8)) (bytesOfStr l) [.slice (some ⟨w.heap.size, 0, none⟩) l.length cap] := by
            rw [← hbl]
            refine rep_of_rows (cells := (bytesOfStr l).map (Value.int .u8)) (rows_bytes _ fun y hy => ?_) (.inr rfl) (by rw [hbl]; exact hge) hcm fun j u hu => ?_
            · simp only [bytesOfStr, List.mem_map] at hy
              obtain ⟨b, _, rfl⟩ := hy
              have := b.toNat_lt
              generalize b.toNat = q at *
              omega
            · rw [addr_add, cell_of_row w1 _ _ _ _ _ hblk]
              simp only [bytesOfStr, List.map_map, List.getElem?_map] at hu
              have hj : j < l.length := by
                rcases Nat.lt_or_ge j l.length with h | h
                · exact h
                · rw [List.getElem?_eq_none h] at hu; simp at hu
              have := bytesRow_at ⟨⟨l⟩⟩ cap j hj
              rw [Nat.zero_add, this, ← hu, List.getElem?_eq_getElem hj]
              rfl
          refine ⟨_, w1, g1', hrun, ⟨hb, fun b h => .inl h, fun b h => ?_, fun id h => ⟨h, rfl⟩, fun id h => .inl h, by simp only [RV]; exact hrep, fun _ _ h => by simp [lookN] at h, fun _ _ _ _ _ h => by simp [lookN] at h⟩⟩
          rcases h with h | rfl
          · exact .inl h
          · refine .inr ⟨Nat.le_refl _, ?_⟩
            have := (Array.getElem?_eq_some_iff.1 hblk).1
            exact this
        · simp at hs
end
end Go.Eng
