import Derived.Test.YtlfehkoklgmjjaaEngM
/- A body, a function. -/
set_option linter.unusedVariables false
set_option linter.unusedSimpArgs false
namespace Go.Eng
open Go.RowKit (Below)

def exOf : Ex → Exit
  | .normal => .normal
  | .exit id => .exit id
  | .ret => .ret
  | .goto l => .goto l
def codeOk (N : Nat) : Code → Bool
  | .region _ ops _ => ops.toList.all (dstOk N)
  | .seq a b => codeOk N a && codeOk N b
  | .cond _ a b => codeOk N a && codeOk N b
  | .block _ b => codeOk N b
  | .loop b => codeOk N b
  | .scope b => codeOk N b
  | _ => true

theorem wp_loop_ghost {P : Program} {Q : Exit → Act → World → Prop} {c : Code} {α : Type} (I : α → Act → World → Prop) (μ : α → Nat) {x0 : α} {a : Act} {w : World} (h0 : I x0 a w)
    (round : ∀ x a w, I x a w → c.wp P (Exit.then (fun a' w' => ∃ y, I y a' w' ∧ μ y < μ x) Q) a w) : (Code.loop c).wp P Q a w := by
  intro b k cs
  have key : ∀ n x a w, μ x = n → I x a w → ∃ e a' w', Q e a' w' ∧ Arrives P (lone (b.at a (.code c :: .inLoop c :: k)) cs w) b k cs e a' w' := by
    intro n
    induction n using Nat.strongRecOn with
    | _ n ih =>
      intro x a w hn hI
      obtain ⟨e, a1, w1, hq, harr⟩ := round x a w hI b (.inLoop c :: k) cs
      cases e with
      | normal =>
        obtain ⟨y, hy, hlt⟩ := hq
        obtain ⟨e2, a2, w2, hq2, harr2⟩ := ih (μ y) (hn ▸ hlt) y a1 w1 rfl hy
        exact ⟨e2, a2, w2, hq2, .of_steps (Steps.trans harr (.one step_inLoop)) harr2⟩
      | exit id => exact ⟨_, a1, w1, hq, .pass (x := .inLoop c) rfl (fun _ _ => .inl (by simp)) harr⟩
      | goto l => exact ⟨_, a1, w1, hq, .pass (x := .inLoop c) rfl (fun _ _ => .inl (by simp)) harr⟩
      | ret => exact ⟨_, a1, w1, hq, .pass (x := .inLoop c) rfl (fun _ _ => .inl (by simp)) harr⟩
      | panic ch => exact ⟨_, a1, w1, hq, .pass (x := .inLoop c) rfl (fun _ _ => .inl (by simp)) harr⟩
      | outgrown => exact ⟨_, a1, w1, hq, .pass (x := .inLoop c) rfl (fun _ _ => .inl (by simp)) harr⟩
  obtain ⟨e, a', w', hq, harr⟩ := key _ x0 a w rfl h0
  exact ⟨e, a', w', hq, .of_steps (.one step_loop) harr⟩

section
variable {C : Cx} {w w' : World} {g g' : Gh} {h : Heap} {T : Tab} {S : Specs} {N n : Nat} {keep : List (Nat × List Nat)}

abbrev RelT (C : Cx) (N : Nat) (st : St) (a : Act) (w : World) (g : Gh) : Prop := RelS C N (frN C.pins st.heap) st.env st.heap a w g

theorem vregion_sound {pins : Pins} (hpin : pins = C.pins) (hT : TabOk C.P T) (hS : SpecsOk C.P S) (hmix : C.P.follows .mixedOrders = true) {id : Nat} {keep befs bars : List Nat} {ops : Array Oper} {draw : Bool} {env : Env} {a : Act} (hok : ∀ o ∈ ops.toList, dstOk N o = true) {K : St → Prop} (hs : vregion T S pins keep befs bars ops draw env h K)
    (r : RelS C N (frN pins h) env h a w g) {Q : Exit → Act → World → Prop} (hQ : ∀ st a w g, K st → RelT C N st a w g → Q .normal a w) : (Code.region id ops draw).wp C.P Q a w := by
  unfold vregion at hs
  have hK : ∀ m env h a w g, normK pins keep env h K → RelS C N m env h a w g → Q .normal a w := fun m env h a w g hk r => by
    obtain ⟨env', h', g', hk', r'⟩ := normK_sound hpin r hk
    rw [hpin] at r'
    exact hQ ⟨env', h'⟩ a w g' hk' r'
  cases draw
  · simp only at hs
    rw [forceN_eq] at hs
    exact wp_region_list (vops_sound hT hS hK ops.toList (frN pins h) env h a w g hok hs r)
  · simp only at hs
    obtain ⟨hd, hs⟩ := hs
    have hs := hs.out
    rw [forceN_eq, forceN_eq] at hs
    exact vdraw_sound hT hS hmix hok hd.out hs r hK

theorem setObj_len : ∀ (h : Heap) (id : Nat) (o : Obj), (setObj h id o).length = h.length
  | [], _, _ => rfl
  | (k, o') :: r, id, o => by
    simp only [setObj]
    split
    · rfl
    · simp [setObj_len r id o]
theorem cells_pos0 : ∀ (e : Ty), 0 < e.cells
  | .bool => Nat.one_pos
  | .int _ => Nat.one_pos
  | .str => Nat.one_pos
  | .slice _ => Nat.one_pos
  | .pair a b => by simp only [Ty.cells]; have := cells_pos0 a; omega
theorem setAt_one {α : Type} (cs : List V) (j : Nat) (v' : V) (hj : j < cs.length) : setAt cs j [v'] = cs.set j v' := by
  unfold setAt
  rw [List.set_eq_take_append_cons_drop, if_pos hj]
  simp
theorem RVs_set : ∀ {cs : List V} {vs : List Value} {j : Nat} {v' : V}, RVs C w g cs vs → (∀ x, vs[j]? = some x → RV C w g v' x) → RVs C w g (cs.set j v') vs
  | [], vs, j, v', h, _ => by simpa using h
  | c :: cs, vs, 0, v', h, hx => by
    simp only [RVs] at h
    obtain ⟨x, xs, rfl, h1, h2⟩ := h
    simp only [List.set_cons_zero, RVs]
    exact ⟨x, xs, rfl, hx x (by simp), h2⟩
  | c :: cs, vs, j + 1, v', h, hx => by
    simp only [RVs] at h
    obtain ⟨x, xs, rfl, h1, h2⟩ := h
    simp only [List.set_cons_succ, RVs]
    exact ⟨x, xs, rfl, h1, RVs_set h2 (fun y hy => hx y (by simpa using hy))⟩
theorem weakV_sound {pb : Pins} {k : WK} {v v' : V} {h' : Heap} (hs : weakV pb k v h = some (v', h')) (R : RelH C h w g) (ub : ∀ id, g.U id → id < frN pb h) :
    ∃ g', RelH C h' w g' ∧ Evo w g w g' ∧ (∀ id, g'.U id → id < frN pb h') ∧ (∀ x, RV C w g v x → RV C w g' v' x) ∧ (∀ id cs, lookN h id = some (.box cs) → lookN h' id = some (.box cs)) := by
  unfold weakV at hs
  split at hs
  · rename_i te e
    split at hs
    rotate_left
    · simp at hs
    rename_i hble
    have hble := Nat.le_of_ble_eq_true hble
    simp only [Option.some.injEq, Prod.mk.injEq] at hs
    obtain ⟨rfl, rfl⟩ := hs
    have hfr : frN pb ((frN pb h, Obj.arr te e []) :: h) = frN pb h + 1 := by simp only [frN, List.length_cons]; omega
    have hU : ¬ g.U (frN pb h) := fun hc => by have := ub _ hc; omega
    have q := QRes.arr (C := C) (fresh := frN pb h) (te := te) (e := e) (xs := []) (x := .slice none 0 0) (cells := []) R hU (Below.refl _ _) ⟨by simp, .inl ⟨rfl, rfl⟩⟩ rfl (cells_pos0 e) ⟨_, _, _, rfl⟩
    refine ⟨g.new (frN pb h) (.slice none 0 0), R.quiet q, q.evo R.F, fun id hid => ?_, fun x hx => ?_, fun id cs hl => ?_⟩
    · rw [hfr]
      rcases hid with hid | hid
      · have := ub id hid; omega
      · subst hid; omega
    · simp only [RV] at hx
      subst hx
      exact q.val
    · simp only [lookN]
      cases hb : Nat.beq (frN pb h) id
      · exact hl
      · obtain rfl := Nat.eq_of_beq_eq_true hb
        exact absurd (R.obj _ _ hl).1 hU
  · rename_i e
    simp only [Option.some.injEq, Prod.mk.injEq] at hs
    obtain ⟨rfl, rfl⟩ := hs
    refine ⟨g, R, Evo.refl _ _, ub, fun x hx => ?_, fun _ _ hl => hl⟩
    simp only [RV] at hx ⊢
    subst hx
    simp only [rep]
    exact ⟨none, 0, rfl, by simp, by simp [maxLen], fun _ => rfl, fun i hi => by simp at hi⟩
  · simp only [Option.some.injEq, Prod.mk.injEq] at hs
    obtain ⟨rfl, rfl⟩ := hs
    exact ⟨g, R, Evo.refl _ _, ub, fun x hx => by simpa [RV] using hx, fun _ _ hl => hl⟩
  · rename_i id
    split at hs
    · rename_i te e xs hl
      simp only [Option.some.injEq, Prod.mk.injEq] at hs
      obtain ⟨rfl, rfl⟩ := hs
      obtain ⟨R', ev⟩ := R.freeze hl
      refine ⟨_, R', ev, fun id' hid => ?_, fun x hx => ?_, fun id' cs hl' => ?_⟩
      · unfold frN; rw [setObj_len]; exact ub id' hid
      · have ho := (R'.obj id (.ice e xs) (by rw [lookN_setObj, if_pos rfl, hl]; rfl)).2
        simp only [RO] at ho
        simp only [RV] at hx ⊢
        rw [hx.2.1]
        exact ho
      · rw [lookN_setObj]
        by_cases hi : id' = id
        · subst hi; rw [hl] at hl'; simp at hl'
        · rw [if_neg hi]; exact hl'
    · simp at hs
  · simp at hs
theorem weak1_sound {p : WP} {k : WK} {st st' : St} {a : Act} (hs : weak1 C.pins p k st = some st') (r : RelT C N st a w g) : ∃ g', RelT C N st' a w g' := by
  unfold weak1 at hs
  split at hs
  · rename_i t
    split at hs
    · rename_i v hl
      split at hs
      · rename_i v' h' hw
        simp only [Option.some.injEq] at hs
        subst hs
        obtain ⟨g', R, ev, ub, hv, _⟩ := weakV_sound hw r.H r.ub
        refine ⟨g', R, fun t' u hu => ?_, ub, r.sz, r.df⟩
        simp only [lookN] at hu
        cases hb : Nat.beq t t'
        · rw [hb] at hu
          obtain ⟨x, h1, h2⟩ := r.E t' u hu
          exact ⟨x, h1, RV_mono ev _ _ h2⟩
        · rw [hb] at hu
          obtain rfl := Nat.eq_of_beq_eq_true hb
          simp only [Option.some.injEq] at hu
          subst hu
          obtain ⟨x, h1, h2⟩ := r.E t v hl
          exact ⟨x, h1, hv x h2⟩
      · simp at hs
    · simp at hs
  · rename_i id j
    split at hs
    · rename_i cs hl
      split at hs
      · rename_i v hj
        split at hs
        · rename_i v' h' hw
          simp only [Option.some.injEq] at hs
          subst hs
          obtain ⟨g', R, ev, ub, hv, hbox⟩ := weakV_sound hw r.H r.ub
          have hl' := hbox id cs hl
          obtain ⟨hjl, hjv⟩ := List.getElem?_eq_some_iff.1 hj
          have hone : v'.one = true := by
            obtain ⟨blk, vs, te, q1, q2, q3, q4, q5⟩ := (r.H.obj id _ hl).2
            unfold weakV at hw
            split at hw
            · split at hw
              · simp at hw; rw [← hw.1]; rfl
              · simp at hw
            · simp at hw; rw [← hw.1]; rfl
            · simp at hw; rw [← hw.1]; rfl
            · split at hw
              · simp at hw; rw [← hw.1]; rfl
              · simp at hw
            · simp at hw
          refine ⟨g', ⟨R.keep, R.size, R.os, R.tape, R.output, R.F, R.Fin, R.pin, R.lam, fun id' o ho => ?_, fun id1 o1 id2 o2 b h1 h2 m1 m2 b1 b2 => ?_⟩, fun t u hu => ?_, fun id' hid => by simp only [frN]; rw [setObj_len]; exact ub id' hid, r.sz, r.df⟩
          · rw [lookN_setObj] at ho
            by_cases hi : id' = id
            · subst hi
              rw [if_pos rfl, hl'] at ho
              simp only [Option.map_some, Option.some.injEq] at ho
              subst ho
              obtain ⟨hU, blk, vs, te, q1, q2, q3, q4, q5⟩ := R.obj _ _ hl'
              refine ⟨hU, blk, vs, te, q1, q2, ?_, q4, q5⟩
              rw [setAt_one (α := Nat) cs j v' hjl]
              refine RVs_set q3 fun x hx => ?_
              obtain ⟨_, blk', vs', te', s1, s2, s3, s4, s5⟩ := r.H.obj _ _ hl
              have e1 := (ev.A id' (r.H.obj _ _ hl).1).2
              rw [q1, s1] at e1
              simp only [Value.pointer.injEq, Option.some.injEq, Addr.mk.injEq, and_true] at e1
              subst e1
              rw [q2] at s2
              simp only [Option.some.injEq, Go.Obj.cells.injEq] at s2
              have e2 : vs = vs' := by have := congrArg Array.toList s2.1; simpa using this
              subst e2
              obtain ⟨y, h1, h2⟩ := RVs_at s3 hj
              rw [h1] at hx; cases hx
              exact hv _ h2
            · rw [if_neg hi] at ho
              exact R.obj id' o ho
          · have tr : ∀ id' o', lookN (setObj h' id (.box (setAt cs j [v']))) id' = some o' → ∃ o'', lookN h' id' = some o'' ∧ (o'.mut = true → o''.mut = true) := fun id' o' ho => by
              rw [lookN_setObj] at ho
              by_cases hi : id' = id
              · subst hi
                exact ⟨_, hl', fun _ => rfl⟩
              · rw [if_neg hi] at ho
                exact ⟨o', ho, fun h => h⟩
            obtain ⟨p1, r1, s1⟩ := tr id1 o1 h1
            obtain ⟨p2, r2, s2⟩ := tr id2 o2 h2
            exact R.sep id1 p1 id2 p2 b r1 r2 (s1 m1) (s2 m2) b1 b2
          · obtain ⟨x, h1, h2⟩ := r.E t u hu
            exact ⟨x, h1, RV_mono ev _ _ h2⟩
        · simp at hs
      · simp at hs
    · simp at hs
theorem weakSt_sound : ∀ {l : List (WP × WK)} {st st' : St} {a : Act} {g : Gh}, weakSt C.pins l st = some st' → RelT C N st a w g → ∃ g', RelT C N st' a w g'
  | [], st, st', a, g, hs, r => by simp only [weakSt, Option.some.injEq] at hs; subst hs; exact ⟨g, r⟩
  | (p, k) :: l, st, st', a, g, hs, r => by
    simp only [weakSt] at hs
    split at hs
    · rename_i st1 h1
      obtain ⟨g1, r1⟩ := weak1_sound h1 r
      exact weakSt_sound hs r1
    · simp at hs
theorem weakK_sound {pins : Pins} (hpin : pins = C.pins) {l : List (WP × WK)} {st : St} {a : Act} {K : St → Prop} (hs : weakK pins l st K) (r : RelT C N st a w g) : ∃ st' g', K st' ∧ RelT C N st' a w g' := by
  unfold weakK at hs
  split at hs
  · rename_i st1 h1
    rw [hpin] at h1
    obtain ⟨g1, r1⟩ := weakSt_sound h1 r
    obtain ⟨env', h', g', hk, r'⟩ := normK_sound hpin r1 hs
    rw [hpin] at r'
    exact ⟨⟨env', h'⟩, g', hk, r'⟩
  · exact hs.elim

theorem vc_sound (hpin : pinsOf keep = C.pins) (hT : TabOk C.P T) (hS : SpecsOk C.P S) (hmix : C.P.follows .mixedOrders = true) : ∀ (c : Code) (st : St) (K : Ex → St → Prop) (a : Act) (w : World) (g : Gh), codeOk N c = true → vc T S keep c st K → RelT C N st a w g →
    ∀ (Q : Exit → Act → World → Prop), (∀ e st a w g, K e st → RelT C N st a w g → Q (exOf e) a w) → c.wp C.P Q a w
  | .skip, st, K, a, w, g, _, hs, r, Q, hQ => wp_skip (hQ .normal st a w g hs r)
  | .label _, st, K, a, w, g, _, hs, r, Q, hQ => wp_label (hQ .normal st a w g hs r)
  | .exit id, st, K, a, w, g, _, hs, r, Q, hQ => wp_exit (hQ (.exit id) st a w g hs r)
  | .ret, st, K, a, w, g, _, hs, r, Q, hQ => wp_ret (hQ .ret st a w g hs r)
  | .region id ops draw, st, K, a, w, g, hok, hs, r, Q, hQ => by
    rw [vc_region] at hs
    unfold vcRegion at hs
    split at hs
    · rename_i k hk
      obtain ⟨env, h⟩ := st
      simp only [codeOk, List.all_eq_true] at hok
      exact vregion_sound hpin hT hS hmix hok hs (by rw [hpin]; exact r) fun st a w g hk r => hQ .normal st a w g hk r
    · exact hs.elim
  | .seq x y, st, K, a, w, g, hok, hs, r, Q, hQ => by
    rw [vc_seq] at hs
    unfold vcSeq at hs
    simp only [codeOk, Bool.and_eq_true] at hok
    refine wp_seq (vc_sound hpin hT hS hmix x st _ a w g hok.1 hs r _ fun e st a w g hk r => ?_)
    cases e with
    | normal => exact vc_sound hpin hT hS hmix y st K a w g hok.2 hk r Q hQ
    | exit id => exact hQ (.exit id) st a w g hk r
    | ret => exact hQ .ret st a w g hk r
    | goto l => exact hQ (.goto l) st a w g hk r
  | .cond c x y, st, K, a, w, g, hok, hs, r, Q, hQ => by
    simp only [codeOk, Bool.and_eq_true] at hok
    cases c with
    | tmp d =>
      rw [vc_cond] at hs
      unfold vcCond at hs
      dsimp only at hs
      have ev : ∀ z, (∃ v, lookN st.env d = some v ∧ vbool v = some z) → a.eval (.tmp d) = .bool z := fun z ⟨v, h1, h2⟩ => by
        obtain ⟨x, h3, h4⟩ := r.E d v h1
        have := vbool_rel h2 h4
        subst this
        simp [Act.eval, Array.getD_eq_getD_getElem?, h3]
      split at hs
      · rename_i hl
        exact wp_cond_true (ev true ⟨_, hl, rfl⟩) (vc_sound hpin hT hS hmix x st K a w g hok.1 hs r Q hQ)
      · rename_i hl
        exact wp_cond_false (ev false ⟨_, hl, rfl⟩) (vc_sound hpin hT hS hmix y st K a w g hok.2 hs r Q hQ)
      · rename_i z hl
        exact wp_cond_split (ev z ⟨_, hl, rfl⟩) (fun hz => vc_sound hpin hT hS hmix x st K a w g hok.1 (hs.1 hz).out r Q hQ) (fun hz => vc_sound hpin hT hS hmix y st K a w g hok.2 (hs.2 hz).out r Q hQ)
      · exact hs.elim
    | const v => exact hs.elim
    | global n => exact hs.elim
    | func f => exact hs.elim
  | .block id body, st, K, a, w, g, hok, hs, r, Q, hQ => by
    rw [vc_block] at hs
    unfold vcBlock at hs
    simp only [codeOk] at hok
    refine wp_block (vc_sound hpin hT hS hmix body st _ a w g hok hs r _ fun e st a w g hk r => ?_)
    cases e with
    | normal => exact hQ .normal st a w g hk r
    | exit id' =>
      simp only at hk
      simp only [exOf, Exit.inBlock]
      cases hb : Nat.beq id' id
      · rw [hb] at hk
        rw [if_neg (fun e => by subst e; simp at hb)]
        exact hQ (.exit id') st a w g hk r
      · rw [hb] at hk
        rw [if_pos (Nat.eq_of_beq_eq_true hb)]
        exact hQ .normal st a w g hk r
    | ret => exact hQ .ret st a w g hk r
    | goto l => exact hQ (.goto l) st a w g hk r
  | .loop body, st, K, a, w, g, hok, hs, r, Q, hQ => by
    rw [vc_loop] at hs
    simp only [codeOk] at hok
    unfold LoopVC at hs
    obtain ⟨α, f, inv, μ, a0, hst, h0, hround⟩ := hs
    have hst' : ∃ g, RelT C N (f a0) a w g := by
      rcases hst with rfl | ⟨l, hl⟩
      · exact ⟨g, r⟩
      · obtain ⟨st', g', rfl, r'⟩ := weakK_sound hpin hl r
        exact ⟨g', r'⟩
    refine wp_loop_ghost (fun x a w => inv x ∧ ∃ g, RelT C N (f x) a w g) μ ⟨h0, hst'⟩ fun x a w ⟨hx, g, r⟩ => ?_
    refine vc_sound hpin hT hS hmix body (f x) _ a w g hok (hround x hx) r _ fun e st a w g hk r => ?_
    cases e with
    | normal =>
      obtain ⟨y, hy, h1, h2⟩ := Leaf.out hk
      subst hy
      exact ⟨y, ⟨h1, g, r⟩, h2⟩
    | exit id => exact hQ (.exit id) st a w g hk r
    | ret => exact hQ .ret st a w g hk r
    | goto l => exact hQ (.goto l) st a w g hk r
  | .scope body, st, K, a, w, g, hok, hs, r, Q, hQ => by
    rw [vc_scope] at hs
    unfold vcScope at hs
    simp only [codeOk] at hok
    refine wp_scope_straight (vc_sound hpin hT hS hmix body st _ a w g hok hs r _ fun e st a w g hk r => ?_)
    cases e with
    | normal => exact hQ .normal st a w g hk r
    | exit id => exact hQ (.exit id) st a w g hk r
    | ret => exact hQ .ret st a w g hk r
    | goto l => exact hk.elim
  | .rangeFunc _ _ _ _, st, K, a, w, g, _, hs, r, Q, hQ => hs.elim
  | .goto _, st, K, a, w, g, _, hs, r, Q, hQ => hs.elim
  | .refuse _, st, K, a, w, g, _, hs, r, Q, hQ => hs.elim

/-! ## A function -/
def resSem (tmps : Array Value) : ResultVar → Sem Value
  | .tmp t => pure (tmps.getD t undef)
  | .cell p t => do loadVar t (← asAddr (tmps.getD p undef))
theorem results_eq (fn : Func) (tmps : Array Value) : results fn tmps = (do
    let vs ← fn.results.mapM (resSem tmps)
    pure (if h : vs.size = 1 then vs[0] else .tuple vs)) := by
  unfold results
  congr 1
theorem resV1_sound (hT : TabOk C.P T) {st : St} {a : Act} (r : RelT C N st a w g) {rv : ResultVar} {v : V} (hs : resV1 T st rv = some v) :
    ∃ x, (resSem a.tmps rv).run C.P w = .ok x w ∧ RV C w g v x := by
  cases rv with
  | tmp t =>
    simp only [resV1] at hs
    obtain ⟨x, h1, h2⟩ := r.E t v hs
    exact ⟨x, by simp [resSem, Array.getD_eq_getD_getElem?, h1], h2⟩
  | cell p t =>
    simp only [resV1] at hs
    split at hs
    · rename_i pv hl
      split at hs
      · rename_i v' nw hld
        simp only [Option.some.injEq] at hs
        subst hs
        obtain ⟨x, h1, h2⟩ := r.E p pv hl
        obtain ⟨_, val, h3, h4⟩ := loadV_sound hT r.H hld (by simp) h2
        refine ⟨val, ?_, h4⟩
        have hx : a.tmps.getD p undef = x := by simp [Array.getD_eq_getD_getElem?, h1]
        cases x with
        | pointer ad =>
          cases ad with
          | none => simp [Instr.loadAt, Instr.sureAddr] at h3
          | some ad =>
            simp only [Instr.loadAt, Instr.sureAddr] at h3
            simp [resSem, hx, asAddr] at h3 ⊢
            exact h3
        | _ => simp [Instr.loadAt, Instr.sureAddr] at h3
      · simp at hs
    · simp at hs
theorem resVs_sound (hT : TabOk C.P T) {st : St} {a : Act} (r : RelT C N st a w g) : ∀ (rs : List ResultVar) (vs : List V), resVs T st rs = some vs →
    ∃ xs : List Value, (rs.mapM (resSem a.tmps)).run C.P w = .ok xs w ∧ RVs C w g vs xs
  | [], vs, hs => by
    simp [resVs] at hs
    subst hs
    exact ⟨[], by simp, by simp [RVs]⟩
  | rv :: rs, vs, hs => by
    simp only [resVs] at hs
    split at hs
    · rename_i v vs' h1 h2
      simp only [Option.some.injEq] at hs
      subst hs
      obtain ⟨x, h3, h4⟩ := resV1_sound hT r h1
      obtain ⟨xs, h5, h6⟩ := resVs_sound hT r rs vs' h2
      refine ⟨x :: xs, ?_, by simp only [RVs]; exact ⟨x, xs, rfl, h4, h6⟩⟩
      simp only [List.mapM_cons, Sem.run_bind, h3, Result.andThen_ok, h5, Sem.run_pure]
    · simp at hs

theorem paramEnv_look : ∀ (vs : List V) (i t : Nat) (v : V), lookN (paramEnv i vs) t = some v → i ≤ t ∧ vs[t - i]? = some v
  | [], i, t, v, h => by simp [paramEnv, lookN] at h
  | u :: r, i, t, v, h => by
    simp only [paramEnv, lookN] at h
    cases hb : Nat.beq i t
    · rw [hb] at h
      obtain ⟨h1, h2⟩ := paramEnv_look r (i + 1) t v h
      refine ⟨by omega, ?_⟩
      rw [show t - i = (t - (i + 1)) + 1 by omega]
      simpa using h2
    · rw [hb] at h
      simp only [Option.some.injEq] at h
      obtain rfl := Nat.eq_of_beq_eq_true hb
      subst h
      simp

theorem vfun_sound (hpin : pinsOf keep = C.pins) (hT : TabOk C.P T) (hS : SpecsOk C.P S) (hmix : C.P.follows .mixedOrders = true) {f : FuncId} {fn : Func} (hf : C.P.funcs[f]? = some fn) {args : List V} {vals : List Value} {Post : V → Heap → Prop}
    (hok : (match fn.body with | some c => codeOk fn.ntmps c | none => false) = true) (hn : vals.length ≤ fn.ntmps) (hs : vfun T S keep fn args h Post) (R : RelH C h w g) (hU : ∀ id, g.U id → id < frN C.pins h) (hv : RVs C w g args vals) :
    Calls C.P f vals.toArray w fun e w' => ∃ v h' x g', Post v h' ∧ e = .returned x ∧ RelH C h' w' g' ∧ RV C w' g' v x := by
  unfold vfun at hs
  cases hb : fn.body with
  | none => simp [hb] at hs
  | some c =>
    simp only [hb] at hs hok
    refine calls_of_wp hf hb ?_
    have hsz : (vals.toArray ++ Array.replicate (fn.ntmps - vals.toArray.size) undef).size = fn.ntmps := by simp; omega
    have r : RelT C fn.ntmps ⟨paramEnv 0 args, h⟩ { tmps := vals.toArray ++ Array.replicate (fn.ntmps - vals.toArray.size) undef, defers := [] } w g := by
      refine ⟨R, fun t v ht => ?_, hU, hsz, rfl⟩
      obtain ⟨_, h2⟩ := paramEnv_look args 0 t v ht
      rw [Nat.sub_zero] at h2
      obtain ⟨x, h3, h4⟩ := RVs_at hv h2
      refine ⟨x, ?_, h4⟩
      have hlt := (List.getElem?_eq_some_iff.1 h3).1
      simp only
      rw [Array.getElem?_append_left (by simpa using hlt)]
      simpa using h3
    refine vc_sound hpin hT hS hmix c _ _ _ w g hok hs r _ fun e st a w' g' hk r => ?_
    have fin : (match resVs T st fn.results.toList with
        | none => False
        | some [v] => forceV v fun v => Leaf (Post v st.heap)
        | some vs => forceVs vs fun vs => Leaf (Post (.tup vs) st.heap)) → a.defers = [] ∧ ∃ v, (results fn a.tmps).run C.P w' = .ok v w' ∧ ∃ v' h' x g', Post v' h' ∧ Ending.returned v = .returned x ∧ RelH C h' w' g' ∧ RV C w' g' v' x := by
      intro hk
      refine ⟨r.df, ?_⟩
      have run : ∀ vs, resVs T st fn.results.toList = some vs → ∃ xs : List Value, (results fn a.tmps).run C.P w' = .ok (if h : xs.toArray.size = 1 then xs.toArray[0] else .tuple xs.toArray) w' ∧ RVs C w' g' vs xs := fun vs hvs => by
        obtain ⟨xs, h1, h2⟩ := resVs_sound hT r _ _ hvs
        refine ⟨xs, ?_, h2⟩
        rw [results_eq, Array.mapM_eq_mapM_toList]
        simp only [Sem.run_bind, Sem.run_map, h1, Result.andThen_ok, Sem.run_pure]
      cases hr : resVs T st fn.results.toList with
      | none => rw [hr] at hk; exact hk.elim
      | some vs =>
        rw [hr] at hk
        obtain ⟨xs, h1, h2⟩ := run vs hr
        match vs, hk, h2 with
        | [], hk, h2 =>
          simp only [RVs] at h2
          subst h2
          dsimp only at hk
          rw [forceVs_eq] at hk
          exact ⟨_, h1, .tup [], st.heap, _, g', hk.out, rfl, r.H, by simp [RV, RVs]⟩
        | [v], hk, h2 =>
          simp only [RVs] at h2
          obtain ⟨x, _, rfl, h3, rfl⟩ := h2
          dsimp only at hk
          rw [forceV_eq] at hk
          exact ⟨_, h1, v, st.heap, _, g', hk.out, rfl, r.H, by simpa using h3⟩
        | v1 :: v2 :: vs, hk, h2 =>
          dsimp only at hk
          rw [forceVs_eq] at hk
          have hl := RVs_len h2
          have hne : ¬ xs.toArray.size = 1 := by simp at hl ⊢; omega
          rw [dif_neg hne] at h1
          exact ⟨_, h1, .tup (v1 :: v2 :: vs), st.heap, _, g', hk.out, rfl, r.H, by simp only [RV]; exact ⟨xs, rfl, h2⟩⟩
    cases e with
    | normal => exact fin hk
    | ret => exact fin hk
    | exit id => exact hk.elim
    | goto l => exact hk.elim
end
end Go.Eng
