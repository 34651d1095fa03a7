import Derived.Test.YtlfehkoklgmjjaaEngI
/- Each operation does what the abstract step says: append, copy, cuts of one's own slice. -/
set_option linter.unusedVariables false
set_option linter.unusedSimpArgs false
namespace Go.Eng
open Go.RowKit (Below)

section
variable {C : Cx} {w w' : World} {g g' : Gh} {h : Heap} {P : Program} {T : Tab} {fresh : Nat}

theorem ablk_own {v : Value} (h : ∃ A n c, v = .slice A n c) : v.ownBlock = ablk v := by
  obtain ⟨A, n, c, rfl⟩ := h
  cases A <;> rfl

/-- One's own slice handed on to a new name, its block written, or another one made for it. -/
theorem RelH.move (R : RelH C h w g) (hU : ¬ g.U fresh) {id : Nat} {te : TypeId} {e : Ty} {xs ys : List e.den} {cells : List Value} {av : Value} (ho : lookN h id = some (.arr te e xs)) (hsl : ∃ A n c, g.anch id = .slice A n c)
    (hg : w.grownBy w' (g.anch id).ownBlock) (hown : w'.ownsRow 0 te e.cells av ys.length cells) (hr : reps w' g.F e ys cells) (hblk : av.ownBlock = (g.anch id).ownBlock ∨ av.ownBlock = some w.heap.size) (hav : ∃ A n c, av = .slice A n c) :
    WRes C w g fresh (.own fresh) ((fresh, .arr te e ys) :: delObj h id) av w' (g.new fresh av) := by
  obtain ⟨hUi, hOi⟩ := R.obj id _ ho
  have hrow : ∀ b, (g.anch id).ownBlock = some b → b < w.heap.size ∧ MutOk C g b := fun b hb => RO_block hOi rfl (by rw [← ablk_own hsl]; exact hb)
  have hF : ∀ b, g.F b → w'.heap[b]? = w.heap[b]? := fun b hb => hg.block b (R.F b hb) (fun he => (hrow b he.symm).2.2 hb)
  have ev : Evo w g w' (g.new fresh av) := evo_new hU av hF
  have havb : ∀ b, ablk av = some b → MutOk C g b := fun b hb => by
    rw [← ablk_own hav] at hb
    rcases hblk with h1 | h1
    · rw [h1] at hb; exact (hrow b hb).2
    · rw [h1] at hb
      simp at hb
      subst hb
      exact ⟨.inr R.size, fun hFF => by have := R.F _ hFF; omega⟩
  have others : ∀ k o, k ≠ id → lookN h k = some o → ∀ b, o.mut = true → ablk (g.anch k) = some b → b < w.heap.size ∧ some b ≠ (g.anch id).ownBlock := fun k o hk hko b hm hb => by
    refine ⟨(RO_block (R.obj k o hko).2 hm hb).1, fun he => hk ?_⟩
    exact R.sep k o id _ b hko ho hm rfl hb (by rw [← ablk_own hsl]; exact he.symm)
  have look : ∀ k o, lookN ((fresh, Obj.arr te e ys) :: delObj h id) k = some o → (k = fresh ∧ o = .arr te e ys) ∨ (k ≠ fresh ∧ k ≠ id ∧ lookN h k = some o) := fun k o hk => by
    simp only [lookN] at hk
    cases hq : Nat.beq fresh k
    · rw [hq] at hk
      simp only at hk
      rw [lookN_delObj] at hk
      by_cases hki : k = id
      · rw [if_pos hki] at hk; simp at hk
      · rw [if_neg hki] at hk
        exact .inr ⟨fun he => by subst he; simp at hq, hki, hk⟩
    · rw [hq] at hk
      simp only [Option.some.injEq] at hk
      exact .inl ⟨(Nat.eq_of_beq_eq_true hq).symm, hk.symm⟩
  refine ⟨⟨fun b hb => ?_, Nat.le_trans R.size hg.size, hg.os.trans R.os, hg.tape.trans R.tape, hg.output.trans R.output, fun b hb => Nat.lt_of_lt_of_le (R.F b hb) hg.size, R.Fin, ev.pin R.pin, R.lam, fun k o hk => ?_, ?_⟩, ev, ?_, fun k hk => ?_⟩
  · refine (hg.block b (Nat.lt_of_lt_of_le hb.1 R.size) (fun he => ?_)).trans (R.keep b hb)
    rcases (hrow b he.symm).2.1 with h1 | h1
    · exact hb.2 h1
    · have := hb.1; omega
  · rcases look k o hk with ⟨rfl, rfl⟩ | ⟨h1, h2, h3⟩
    · refine ⟨.inr rfl, cells, by rw [show (g.new k av).anch k = av from upd_same _ _ _]; exact hown, hr, ?_, fun b hb => ?_⟩
      · obtain ⟨_, _, _, h0, _⟩ := hOi
        exact h0
      · rw [show (g.new k av).anch k = av from upd_same _ _ _] at hb
        exact havb b hb
    · obtain ⟨q1, q2⟩ := R.obj k o h3
      refine ⟨.inl q1, RO_mono q1 q2 ev fun b hm hb => ?_⟩
      obtain ⟨q3, q4⟩ := others k o h2 h3 b hm hb
      exact ⟨hg.block b q3 q4, (RO_block q2 hm hb).2.2⟩
  · intro k1 o1 k2 o2 b hk1 hk2 hm1 hm2 hb1 hb2
    have anch_old : ∀ k o, k ≠ fresh → lookN h k = some o → (g.new fresh av).anch k = g.anch k := fun k o hk _ => upd_other _ _ _ hk
    have newblk : ∀ b, ablk ((g.new fresh av).anch fresh) = some b → (g.anch id).ownBlock = some b ∨ b = w.heap.size := fun b hb => by
      rw [show (g.new fresh av).anch fresh = av from upd_same _ _ _, ← ablk_own hav] at hb
      rcases hblk with h1 | h1
      · exact .inl (h1 ▸ hb)
      · rw [h1] at hb; simp at hb; exact .inr hb.symm
    rcases look k1 o1 hk1 with ⟨rfl, rfl⟩ | ⟨a1, a2, a3⟩ <;> rcases look k2 o2 hk2 with ⟨rfl, rfl⟩ | ⟨b1, b2, b3⟩
    · rfl
    · exfalso
      rw [anch_old k2 o2 b1 b3] at hb2
      obtain ⟨q3, q4⟩ := others k2 o2 b2 b3 b hm2 hb2
      rcases newblk b hb1 with q | q
      · exact q4 q.symm
      · omega
    · exfalso
      rw [anch_old k1 o1 a1 a3] at hb1
      obtain ⟨q3, q4⟩ := others k1 o1 a2 a3 b hm1 hb1
      rcases newblk b hb2 with q | q
      · exact q4 q.symm
      · omega
    · rw [anch_old k1 o1 a1 a3] at hb1
      rw [anch_old k2 o2 b1 b3] at hb2
      exact R.sep k1 o1 k2 o2 b a3 b3 hm1 hm2 hb1 hb2
  · simp only [RV]
    exact ⟨.inr rfl, (upd_same _ _ _).symm, hav⟩
  · rcases hk with hk | rfl
    · exact .inl hk
    · exact .inr ⟨Nat.le_refl _, by omega⟩

theorem ownsRow_slice {w : World} {base : Nat} {te : TypeId} {size n : Nat} {v : Value} {xs : List Value} (h : w.ownsRow base te size v n xs) : ∃ A n c, v = .slice A n c := by
  rcases h.2 with ⟨rfl, _⟩ | ⟨g, cap, cur, rfl, _⟩
  · exact ⟨_, _, _, rfl⟩
  · exact ⟨_, _, _, rfl⟩

/-- 'append' onto one's own row, whatever the source. -/
theorem run_append_view {te : TypeId} {e : Ty} {inf : TypeInfo} {z : Value} {t ty : TypeId} {bytes : Nat} (g1 : P.underlying t = some (.slice te)) (g2 : P.info? te = some inf) (g3 : inf.size = e.cells) (g4 : inf.bytes = bytes) (g5 : inf.zero = some z) (g7 : 0 < e.cells) (g8 : z.cells.size = e.cells)
    {base n : Nat} {v x : Value} {cells ncells : List Value} {ys : List e.den} {A : Option Addr} {cap : Nat} {F : Nat → Prop} (hown : w.ownsRow base te e.cells v n cells) (q : View w F e ys x A cap ncells) (hb : (n + ys.length) * bytes ≤ 140737488355328) (hm : n + ys.length ≤ maxLen) (hbase : base ≤ w.heap.size) :
    ∃ v' w', (Builtin.append_ #[t, t] ty #[v, x]).run P w = .ok v' w' ∧ w'.ownsRow base te e.cells v' (n + ys.length) (cells ++ ncells) ∧ w.grownBy w' v.ownBlock ∧ (v'.ownBlock = v.ownBlock ∨ v'.ownBlock = some w.heap.size) := by
  rw [q.val]
  cases A with
  | none =>
    have h0 := q.nil rfl
    have hy : ys = [] := List.eq_nil_of_length_eq_zero (by have := q.le; omega)
    subst hy
    have hn := q.rows
    simp only [reps] at hn
    subst hn
    subst h0
    exact ⟨v, w, run_append_owned_none w base t ty te inf e.cells g1 g2 v n cells hown, by simpa using hown, ⟨rfl, rfl, rfl, Nat.le_refl _, fun _ _ _ => rfl⟩, .inl rfl⟩
  | some ad =>
    obtain ⟨v', w', h1, h2, h3, _, h5⟩ := run_append_own_at (P := P) w base t ty te inf z e.cells bytes g1 g2 g5 g3 g4 g8 g7 v n cells hown ad ys.length cap ncells (reps_len e _ _ q.rows) (q.cell ad rfl) (reps_one e _ _ q.rows) hm hb hbase
    exact ⟨v', w', h1, h2, h3, h5⟩

theorem appendV_sound (hT : TabOk P T) (R : RelH C h w g) (hf : FreshIds g fresh) {t ty : TypeId} {s a v : V} {sx x : Value} {c : List Prop} {h' : Heap} (hs : appendV T t s a fresh h = some (c, v, h')) (hc : ∀ p ∈ c, p)
    (hsv : RV C w g s sx) (ha : RV C w g a x) : ∃ val w' g', (Builtin.append_ #[t, t] ty #[sx, x]).run P w = .ok val w' ∧ WRes C w g fresh v h' val w' g' := by
  unfold appendV at hs
  cases he : elemT T t with
  | none => simp [he] at hs
  | some p =>
    obtain ⟨te, e, bytes, zero⟩ := p
    obtain ⟨inf, z, g1, g2, g3, g4, g5, g6, g7, g8, g9⟩ := elem_of hT he
    simp only [he] at hs
    cases hvw : viewL h true e a with
    | none => simp [hvw] at hs
    | some ys =>
      simp only [hvw] at hs
      obtain ⟨A, cap, ncells, q, _⟩ := viewL_sound R hvw ha
      have hU := hf fresh (Nat.le_refl _) (by omega)
      cases s <;> simp only at hs
      all_goals try (simp at hs; done)
      case nil =>
        simp only [Option.some.injEq, Prod.mk.injEq] at hs
        obtain ⟨rfl, rfl, rfl⟩ := hs
        simp only [RV] at hsv
        subst hsv
        obtain ⟨v', w', h1, h2, h3, h5⟩ := run_append_view (P := P) (ty := ty) g1 g2 g3 g4 g5 g7 g8 (World.ownsRow_nil w w.heap.size te e.cells) q (by rw [Nat.zero_add]; exact hc _ (by simp)) (by rw [Nat.zero_add]; exact hc _ (by simp)) (Nat.le_refl _)
        rw [Nat.zero_add, List.nil_append] at h2
        have hb : Below w.heap.size w w' := ⟨h3.os, h3.tape, h3.output, h3.size, fun k hk => h3.block k hk (by simp [Value.ownBlock])⟩
        exact ⟨v', w', _, h1, (QRes.arr (fresh := fresh) R hU hb h2 q.rows g7 (ownsRow_slice h2)).wres R⟩
      case own id =>
        simp only [RV] at hsv
        obtain ⟨_, rfl, hsl⟩ := hsv
        cases ho : lookN h id with
        | none => simp [ho] at hs
        | some o =>
          cases o <;> simp only [ho] at hs
          all_goals try (simp at hs; done)
          rename_i te' e' xs'
          cases hbt : Nat.beq te te'
          · simp [hbt] at hs
          cases hcast : castL e' e xs' with
          | none => simp [hbt, hcast] at hs
          | some xs =>
            simp only [hbt, hcast, Option.some.injEq, Prod.mk.injEq] at hs
            obtain ⟨rfl, rfl, rfl⟩ := hs
            obtain rfl := Nat.eq_of_beq_eq_true hbt
            obtain ⟨rfl, hxs⟩ := castL_eq hcast
            simp at hxs
            subst hxs
            obtain ⟨cells, k1, k2, k3, k4⟩ := (R.obj id _ ho).2
            obtain ⟨v', w', h1, h2, h3, h5⟩ := run_append_view (P := P) (ty := ty) g1 g2 g3 g4 g5 g7 g8 k1 q (hc _ (by simp)) (hc _ (by simp)) (Nat.zero_le _)
            refine ⟨v', w', _, h1, R.move hU ho hsl h3 (by simpa using h2) ?_ h5 (ownsRow_slice h2)⟩
            have hFF : ∀ b, g.F b → g.F b ∧ w'.heap[b]? = w.heap[b]? := fun b hb => ⟨hb, h3.block b (R.F b hb) (fun he => (k4 b (by rw [← ablk_own hsl]; exact he.symm)).2 hb)⟩
            exact reps_append e' _ _ _ _ (reps_mono hFF e' _ _ k2) (reps_mono hFF e' _ _ q.rows)

theorem appendNil_sound (hT : TabOk P T) (R : RelH C h w g) (hf : FreshIds g fresh) {t ty : TypeId} {s a v : V} {sx x : Value} {c : List Prop} {news : Heap} (hs : appendNil T t s a fresh h = some (c, v, news)) (hc : ∀ p ∈ c, p)
    (hsv : RV C w g s sx) (ha : RV C w g a x) : ∃ val w' g', (Builtin.append_ #[t, t] ty #[sx, x]).run P w = .ok val w' ∧ QRes C w g fresh v news val w' g' := by
  unfold appendNil at hs
  cases he : elemT T t with
  | none => simp [he] at hs
  | some p =>
    obtain ⟨te, e, bytes, zero⟩ := p
    obtain ⟨inf, z, g1, g2, g3, g4, g5, g6, g7, g8, g9⟩ := elem_of hT he
    simp only [he] at hs
    cases s <;> simp only at hs
    all_goals try (simp at hs; done)
    cases hvw : viewL h true e a with
    | none => simp [hvw] at hs
    | some ys =>
      simp only [hvw, Option.some.injEq, Prod.mk.injEq] at hs
      obtain ⟨rfl, rfl, rfl⟩ := hs
      obtain ⟨A, cap, ncells, q, _⟩ := viewL_sound R hvw ha
      have hU := hf fresh (Nat.le_refl _) (by omega)
      simp only [RV] at hsv
      subst hsv
      obtain ⟨v', w', h1, h2, h3, h5⟩ := run_append_view (P := P) (ty := ty) g1 g2 g3 g4 g5 g7 g8 (World.ownsRow_nil w w.heap.size te e.cells) q (by rw [Nat.zero_add]; exact hc _ (by simp)) (by rw [Nat.zero_add]; exact hc _ (by simp)) (Nat.le_refl _)
      rw [Nat.zero_add, List.nil_append] at h2
      have hb : Below w.heap.size w w' := ⟨h3.os, h3.tape, h3.output, h3.size, fun k hk => h3.block k hk (by simp [Value.ownBlock])⟩
      exact ⟨v', w', _, h1, QRes.arr (fresh := fresh) R hU hb h2 q.rows g7 (ownsRow_slice h2)⟩
theorem run_copy_view {te : TypeId} {e : Ty} {inf : TypeInfo} {t ty : TypeId} (g1 : P.underlying t = some (.slice te)) (g2 : P.info? te = some inf) (g3 : inf.size = e.cells)
    {xs ys : List e.den} {x : Value} {ncells : List Value} {A : Option Addr} {cap : Nat} {F : Nat → Prop} {gg dcap : Nat} {cur : Array Value} (hg : w.heap[gg]? = some (.cells cur te (0, 0))) (hfit : xs.length * e.cells ≤ cur.size) (q : View w F e ys x A cap ncells) :
    (Builtin.copy_ #[t, t] ty #[.slice (some ⟨gg, 0, none⟩) xs.length dcap, x]).run P w = .ok (.int .i64 ((min ys.length xs.length : Nat) : Int))
      (w.setRow gg (ncells.take (min ys.length xs.length * e.cells) ++ cur.toList.drop (min ys.length xs.length * e.cells)).toArray) := by
  rw [q.val]
  have hnl := reps_len e _ _ q.rows
  have hlen : (ncells.take (min ys.length xs.length * e.cells)).length = min ys.length xs.length * e.cells := by
    have : min ys.length xs.length * e.cells ≤ ys.length * e.cells := Nat.mul_le_mul_right _ (Nat.min_le_left _ _)
    simp; omega
  have hst := run_storeCells_at P gg 0 te (ncells.take (min ys.length xs.length * e.cells)) 0 cur w hg (by
    rw [hlen]
    have : min ys.length xs.length * e.cells ≤ xs.length * e.cells := Nat.mul_le_mul_right _ (Nat.min_le_right _ _)
    omega) (fun v hv => reps_one e _ _ q.rows v (List.mem_of_mem_take hv))
  simp only [Nat.zero_add, List.take_zero, List.nil_append, hlen] at hst
  cases A with
  | none =>
    have h0 := q.nil rfl
    have hy : ys = [] := List.eq_nil_of_length_eq_zero (by have := q.le; omega)
    subst hy
    have hn := q.rows
    simp only [reps] at hn
    subst hn
    simp [Builtin.copy_, run_underlying g1, Builtin.lenOf, Builtin.firstCells, sizeOf, typeInfo, g2, goInt] at hst ⊢
    rw [hst]
    rfl
  | some ad =>
    have hl := run_loadCells_list (P := P) w ad (ncells.take (min ys.length xs.length * e.cells)) (fun j u hu => by
      refine q.cell ad rfl j u ?_
      have hj : j < min ys.length xs.length * e.cells := by have := (List.getElem?_eq_some_iff.1 hu).1; omega
      rwa [List.getElem?_take_of_lt hj] at hu)
    rw [hlen] at hl
    simp [Builtin.copy_, run_underlying g1, Builtin.lenOf, Builtin.firstCells, sizeOf, typeInfo, g2, g3, goInt, hl]
    rw [hst]
    rfl

theorem copyV_sound (hT : TabOk P T) (R : RelH C h w g) {t ty : TypeId} {d a v : V} {dx x : Value} {c : List Prop} {h' : Heap} (hs : copyV T t d a h = some (c, v, h'))
    (hd : RV C w g d dx) (ha : RV C w g a x) : ∃ val w' g', (Builtin.copy_ #[t, t] ty #[dx, x]).run P w = .ok val w' ∧ WRes C w g fresh v h' val w' g' := by
  unfold copyV at hs
  cases he : elemT T t with
  | none => simp [he] at hs
  | some p =>
    obtain ⟨te, e, bytes, zero⟩ := p
    obtain ⟨inf, z, g1, g2, g3, g4, g5, g6, g7, g8, g9⟩ := elem_of hT he
    simp only [he] at hs
    cases hvw : viewL h true e a with
    | none => simp [hvw] at hs
    | some ys =>
      simp only [hvw] at hs
      obtain ⟨A, cap, ncells, q, _⟩ := viewL_sound R hvw ha
      cases d <;> simp only at hs
      all_goals try (simp at hs; done)
      case own id =>
        simp only [RV] at hd
        obtain ⟨_, rfl, hsl⟩ := hd
        cases ho : lookN h id with
        | none => simp [ho] at hs
        | some o =>
          cases o <;> simp only [ho] at hs
          all_goals try (simp at hs; done)
          rename_i te' e' xs'
          cases hbt : Nat.beq te te'
          · simp [hbt] at hs
          cases hcast : castL e' e xs' with
          | none => simp [hbt, hcast] at hs
          | some xs =>
            simp only [hbt, hcast, Option.some.injEq, Prod.mk.injEq] at hs
            obtain ⟨rfl, rfl, rfl⟩ := hs
            obtain rfl := Nat.eq_of_beq_eq_true hbt
            obtain ⟨rfl, hxs⟩ := castL_eq hcast
            simp at hxs
            subst hxs
            obtain ⟨hU, cells, k1, k2, k3, k4⟩ := R.obj id _ ho
            rcases k1.2 with ⟨hnil, hn0⟩ | ⟨gg, cp, cur, hval, _, hheap, hncap, hcm, hcs, htake⟩
            · -- nothing to copy into
              have hx0 : xs' = [] := List.eq_nil_of_length_eq_zero hn0
              subst hx0
              have R' : RelH C (setObj h id (.arr te e' [])) w g := by
                have : ∀ k, lookN (setObj h id (.arr te e' [])) k = lookN h k := fun k => by
                  rw [lookN_setObj]
                  by_cases hk : k = id
                  · subst hk; rw [if_pos rfl, ho]; rfl
                  · rw [if_neg hk]
                exact ⟨R.keep, R.size, R.os, R.tape, R.output, R.F, R.Fin, R.pin, R.lam, fun k o hk => R.obj k o (by rw [← this]; exact hk), fun k o k' o' b hk hk' => R.sep k o k' o' b (by rw [← this]; exact hk) (by rw [← this]; exact hk')⟩
              refine ⟨.int .i64 ((min ys.length 0 : Nat) : Int), w, g, ?_, ?_, Evo.refl _ _, ?_, fun id h => .inl h⟩
              · rw [hnil, q.val]
                have hmin : Nat.min ys.length 0 = 0 := by simp
                cases A with
                | none => simp [Builtin.copy_, run_underlying g1, Builtin.lenOf, Builtin.firstCells, sizeOf, typeInfo, g2, goInt]
                | some ad => simp [Builtin.copy_, run_underlying g1, Builtin.lenOf, Builtin.firstCells, sizeOf, typeInfo, g2, goInt, loadCells, loadCellsFrom]
              · simpa using R'
              · simp [RV, IntKind.min, IntKind.max, IntKind.signed, IntKind.bits]
            · rw [hval]
              have hrun := run_copy_view (P := P) (ty := ty) (dcap := cp) (xs := xs') g1 g2 g3 hheap (by rw [hcs]; exact Nat.mul_le_mul_right _ hncap) q
              generalize hm : min ys.length xs'.length = m at hrun
              generalize hw' : w.setRow gg (ncells.take (m * e'.cells) ++ cur.toList.drop (m * e'.cells)).toArray = w' at hrun
              have hml : m ≤ ys.length ∧ m ≤ xs'.length := by omega
              have hnl := reps_len e' _ _ q.rows
              have hmy : m * e'.cells ≤ ys.length * e'.cells := Nat.mul_le_mul_right _ hml.1
              have hmx : m * e'.cells ≤ xs'.length * e'.cells := Nat.mul_le_mul_right _ hml.2
              have hxc : xs'.length * e'.cells ≤ cp * e'.cells := Nat.mul_le_mul_right _ hncap
              have hys : ys.take xs'.length = ys.take m := by
                rw [← hm]
                by_cases hle : ys.length ≤ xs'.length
                · rw [Nat.min_eq_left hle, List.take_of_length_le hle, List.take_length]
                · rw [Nat.min_eq_right (by omega)]
              have hxd : xs'.drop ys.length = xs'.drop m := by
                rw [← hm]
                by_cases hle : ys.length ≤ xs'.length
                · rw [Nat.min_eq_left hle]
                · rw [Nat.min_eq_right (by omega), List.drop_eq_nil_of_le (by omega), List.drop_eq_nil_of_le (by omega)]
              obtain ⟨R', e2⟩ := R.write (w' := w') (o' := .arr te e' (ys.take xs'.length ++ xs'.drop ys.length)) ho rfl rfl (blk := gg) (by rw [hval]; rfl) (fun b hb => by rw [← hw']; exact setRow_other w gg b _ hb) (by rw [← hw']; simp [World.setRow])
                (by rw [← hw']; rfl) (by rw [← hw']; rfl) (by rw [← hw']; rfl) (fun ev => by
                  have hcells : cells.length = xs'.length * e'.cells := k1.1
                  have hlenx : (ys.take xs'.length ++ xs'.drop ys.length).length = xs'.length := by rw [hys, hxd]; simp; omega
                  refine ⟨ncells.take (m * e'.cells) ++ cells.drop (m * e'.cells), ⟨by rw [hlenx]; simp; omega, .inr ⟨gg, cp, (ncells.take (m * e'.cells) ++ cur.toList.drop (m * e'.cells)).toArray, ?_, Nat.zero_le _, ?_, by rw [hlenx]; exact hncap, hcm, ?_, ?_⟩⟩, ?_, k3, k4⟩
                  · rw [hval, hlenx]
                  · rw [← hw']; exact setRow_heap w gg _ _ te _ hheap
                  · simp; omega
                  · rw [hlenx, ← htake]
                    simp only
                    rw [List.take_append, List.take_of_length_le (by simp; omega), List.drop_take]
                    congr 2
                    simp; omega
                  · rw [hys, hxd]
                    exact reps_append e' _ _ _ _ (reps_take e' _ _ (reps_mono ev.F e' _ _ q.rows) m) (reps_drop e' _ _ (reps_mono ev.F e' _ _ k2) m))
              refine ⟨_, w', g, hrun, R', e2, ?_, fun id h => .inl h⟩
              simp only [RV]
              refine ⟨trivial, wrap_len ?_⟩
              have := q.le; have := q.max; omega

theorem sliceOwnV_sound (hT : TabOk P T) (R : RelH C h w g) (hf : FreshIds g fresh) {t : TypeId} {a v : V} {x : Value} {lo hi mx : Option V} {lx hx mxx : Option Value} {c : List Prop} {h' : Heap}
    (hs : sliceOwnV T t a lo hi mx fresh h = some (c, v, h')) (hc : ∀ p ∈ c, p) (ha : RV C w g a x) (hlo : OptRel C w g lo lx) (hhi : OptRel C w g hi hx) (hmx : OptRel C w g mx mxx) :
    ∃ val w' g', (Instr.sliceAt t x lx hx mxx).run P w = .ok val w' ∧ WRes C w g fresh v h' val w' g' := by
  unfold sliceOwnV at hs
  split at hs
  · rename_i id te e bytes zero he
    rcases hmx with ⟨_, rfl⟩ | ⟨_, _, h0, _⟩
    case inr => simp at h0
    obtain ⟨inf, z, g1, g2, g3, g4, g5, g6, g7, g8, g9⟩ := elem_of hT he
    simp only [RV] at ha
    obtain ⟨_, rfl, hsl⟩ := ha
    cases ho : lookN h id with
    | none => simp [ho] at hs
    | some o =>
      cases o <;> simp only [ho] at hs
      all_goals try (simp at hs; done)
      rename_i te' e' xs'
      cases hcast : castL e' e xs' with
      | none => simp [hcast] at hs
      | some xs =>
        simp only [hcast] at hs
        obtain ⟨rfl, hxs⟩ := castL_eq hcast
        simp at hxs
        subst hxs
        obtain ⟨cells, k1, k2, k3, k4⟩ := (R.obj id _ ho).2
        obtain ⟨A, cap, vcells, q⟩ := view_of_arr (R.obj id _ ho).2
        have hU := hf fresh (Nat.le_refl _) (by omega)
        cases lo with
        | none =>
          simp only at hs
          rcases hlo with ⟨_, rfl⟩ | ⟨_, _, h0, _⟩
          case inr => simp at h0
          cases hB : optInt hi xs'.length with
          | none => simp [hB] at hs
          | some b0 =>
            simp only [hB, Option.some.injEq, Prod.mk.injEq] at hs
            obtain ⟨rfl, rfl, rfl⟩ := hs
            have c1 : 0 ≤ b0 := hc _ (by simp)
            have c2 : b0 ≤ xs'.length := hc _ (by simp)
            obtain ⟨b, rfl⟩ := Int.eq_ofNat_of_zero_le c1
            have hbn : b ≤ xs'.length := by omega
            have hhb : hx = none ∧ b = xs'.length ∨ ∃ k, hx = some (.int k (b : Int)) := by
              rcases optInt_rel hB hhi with ⟨q1, q2⟩ | q
              · exact .inl ⟨q1, by omega⟩
              · exact .inr q
            have hsb := run_sliceBounds (P := P) (w := w) true xs'.length cap none hx (a := 0) (b := b) (.inl ⟨rfl, rfl⟩) hhb (Nat.zero_le _) (by have := q.le; omega)
            have hif : (if cap = 0 then A else A.map (·.add (0 * e'.cells))) = A := by
              by_cases h0 : cap = 0
              · rw [if_pos h0]
              · rw [if_neg h0]; cases A <;> simp [Addr.add]
            have hrun : (Instr.sliceAt t (g.anch id) none hx none).run P w = .ok (.slice A b cap) w := by
              rw [q.val]
              simp [Instr.sliceAt, Instr.slice, run_underlying g1, hsb, sizeOf, typeInfo, g2, g3]
              simpa using hif
            have hbl : (.slice A b cap : Value).ownBlock = (g.anch id).ownBlock := by rw [q.val]; cases A <;> rfl
            simp only [Int.toNat_natCast]
            refine ⟨_, w, _, hrun, R.move hU ho hsl ⟨rfl, rfl, rfl, Nat.le_refl _, fun _ _ _ => rfl⟩ (cells := cells.take (b * e'.cells)) ?_ (reps_take e' _ _ k2 b) (.inl hbl) ⟨_, _, _, rfl⟩⟩
            have hlt : (xs'.take b).length = b := by simp; omega
            have hmul : b * e'.cells ≤ xs'.length * e'.cells := Nat.mul_le_mul_right _ hbn
            rw [hlt]
            refine ⟨by have := k1.1; simp; omega, ?_⟩
            rcases k1.2 with ⟨hnil, hn0⟩ | ⟨gg, cp, cur, hval, _, hheap, hncap, hcm, hcs, htake⟩
            · rw [q.val] at hnil
              simp at hnil
              exact .inl ⟨by rw [hnil.1, hnil.2.2]; congr 1; omega, by omega⟩
            · rw [q.val] at hval
              simp at hval
              obtain ⟨rfl, rfl⟩ := hval
              refine .inr ⟨gg, cap, cur, rfl, Nat.zero_le _, hheap, by omega, hcm, hcs, ?_⟩
              rw [← htake, List.take_take, Nat.min_eq_left hmul]
        | some lo' =>
          simp only at hs
          cases hA : optInt (some lo') 0 with
          | none => simp [hA] at hs
          | some a0 =>
            cases hB : optInt hi xs'.length with
            | none => simp [hA, hB] at hs
            | some b0 =>
              simp only [hA, hB, Option.some.injEq, Prod.mk.injEq] at hs
              obtain ⟨rfl, rfl, rfl⟩ := hs
              have c1 : 0 ≤ a0 := hc _ (by simp)
              have c2 : a0 ≤ b0 := hc _ (by simp)
              have c3 : b0 ≤ xs'.length := hc _ (by simp)
              obtain ⟨a1, rfl⟩ := Int.eq_ofNat_of_zero_le c1
              obtain ⟨b1, rfl⟩ := Int.eq_ofNat_of_zero_le (Int.le_trans c1 c2)
              have n1 : lx = none ∧ a1 = 0 ∨ ∃ k, lx = some (.int k (a1 : Int)) := by
                rcases optInt_rel hA hlo with ⟨q1, q2⟩ | q
                · exact .inl ⟨q1, by omega⟩
                · exact .inr q
              have n2 : hx = none ∧ b1 = xs'.length ∨ ∃ k, hx = some (.int k (b1 : Int)) := by
                rcases optInt_rel hB hhi with ⟨q1, q2⟩ | q
                · exact .inl ⟨q1, by omega⟩
                · exact .inr q
              have n3 : a1 ≤ b1 := by omega
              have n4 : b1 ≤ xs'.length := by omega
              obtain ⟨R1, e1⟩ := R.freeze ho
              have hcut := view_cut q n3 n4
              have hsb := run_sliceBounds (P := P) (w := w) true xs'.length cap lx hx n1 n2 n3 (by have := q.le; omega)
              have hle := q.le
              have hrun : (Instr.sliceAt t (g.anch id) lx hx none).run P w = .ok (.slice (if cap = a1 then A else A.map (·.add (a1 * e'.cells))) (b1 - a1) (cap - a1)) w := by
                rw [q.val]
                simp [Instr.sliceAt, Instr.slice, run_underlying g1, hsb, sizeOf, typeInfo, g2, g3]
              simp only [Int.toNat_natCast]
              refine ⟨_, w, ⟨g.anch, fun b => g.F b ∨ ablk (g.anch id) = some b, g.U⟩, hrun, R1, e1, ?_, fun id h => .inl h⟩
              simp only [RV]
              obtain ⟨hv1, hv2, hv3, hv4, hv5, hv6, hv7⟩ := hcut
              have hlenc : ((xs'.take b1).drop a1).length = b1 - a1 := by simp; omega
              rw [← hlenc] 
              by_cases hne : (xs'.take b1).drop a1 = []
              · simp only [rep]
                refine ⟨_, _, rfl, by rw [hne]; simp, hv4, hv5, fun i hi => by rw [hne] at hi; simp at hi⟩
              · have hca : cap ≠ a1 := by
                  intro hca
                  apply hne
                  apply List.eq_nil_of_length_eq_zero
                  rw [hlenc]; omega
                rw [if_neg hca] at hv6 ⊢
                cases A with
                | none => have := q.nil rfl; omega
                | some ad =>
                  simp only [Option.map_some] at hv6 ⊢
                  refine rep_of_rows (reps_mono (fun b hb => ⟨.inl hb, rfl⟩) e' _ _ hv2) (.inr ?_) hv3 hv4 (hv6 _ rfl)
                  rw [q.val, add_block]; rfl
  · simp at hs

theorem buildSliceW_sound (hT : TabOk P T) (R : RelH C h w g) (hf : FreshIds g fresh) {t : TypeId} {len : Nat} {parts : List (Nat × V)} {ys : List (Nat × Value)} {c : List Prop} {v : V} {h' : Heap}
    (hs : buildSliceV T true t len parts fresh h = some (c, v, h')) (hp : PartsRel C w g parts ys) :
    ∃ val w' g', (Instr.buildSlice t len ys.toArray).run P w = .ok val w' ∧ WRes C w g fresh v h' val w' g' := by
  unfold buildSliceV at hs
  cases he : elemT T t with
  | none => simp [he] at hs
  | some p =>
    obtain ⟨te, e, bytes, zero⟩ := p
    obtain ⟨inf, z, g1, g2, g3, g4, g5, g6, g7, g8, g9⟩ := elem_of hT he
    simp only [he] at hs
    split at hs
    · rename_i cs hcs hb
      simp only [Bool.and_eq_true] at hb
      have hle := Nat.le_of_ble_eq_true hb.1
      split at hs
      · rename_i xs hxs
        simp only [Option.some.injEq, Prod.mk.injEq] at hs
        obtain ⟨rfl, rfl, rfl⟩ := hs
        have hone := hb.2
        rw [← g6] at hcs hone
        have hz := zero_cells (C := C) (w := w) (g := g) z.cells.toList hone
        obtain ⟨us, h2, h3, h4, h5⟩ := fillV_sound parts ys _ cs (repL z.cells.toList len).toArray hcs hp (by simpa using RVs_repL hz len) (by simpa using one_repL (RVs_one hone hz) len)
        have hfun : (fun i => some (i * inf.size, inf.size) : Nat → Option (Nat × Nat)) = fun j => some (j * e.cells, e.cells) := by rw [g3]
        have hrun := run_buildSlice (P := P) (w := w) g1 g2 g5 (g8.trans g3.symm) (by omega) (by rw [g3]; exact hle) (by rw [hfun]; exact h2)
        obtain ⟨F', R1, e1, _⟩ := freezeAll_sound (w := w) cs h g R
        obtain ⟨h6, h7⟩ := toRows_sound R1 e len cs xs us.toList hxs (RVs_mono e1 _ _ h3)
        have hbel : Below w.heap.size w (w.alloc (.cells us te)) := (Below.refl _ _).alloc (Nat.le_refl _) _
        have hsz : us.size = len * e.cells := by rw [h5]; simp [repL_len, g8]
        have hlen : len ≤ 16777216 := by
          have : len * 1 ≤ len * e.cells := Nat.mul_le_mul_left _ g7
          omega
        have hown := ownsRow_new (w := w) (w1 := w.alloc (.cells us te)) (te := te) us len len (Nat.le_refl _) (by simp only [maxLen]; omega) hsz (heap_alloc_new w _)
        rw [List.take_of_length_le (by simp; omega)] at hown
        have hq := QRes.arr (fresh := fresh) R1 (hf fresh (Nat.le_refl _) (by omega)) hbel (by rw [h7]; exact hown) h6 g7 ⟨_, _, _, rfl⟩
        have hw := hq.wres R1
        exact ⟨_, _, _, hrun, hw.rel, e1.trans hw.evo, hw.val, hw.U⟩
      · simp at hs
    · simp at hs
end
end Go.Eng
