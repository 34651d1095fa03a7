import Derived.Test.YtlfehkoklgmjjaaEngV
/- Each operation does what the abstract step says: put together; calls by their specifications. -/
set_option linter.unusedVariables false
set_option linter.unusedSimpArgs false
namespace Go.Eng
open Go.RowKit (Below)

/-- A specification is kept by the function. -/
structure SpecOk (P : Program) (f : FuncId) (s : Spec) : Prop where
  quiet : ∀ (C : Cx) (w : World) (g : Gh) (h : Heap) (fresh : Nat) (args : List V) (vals : List Value) (c : List Prop) (v : V) (news : Heap), C.P = P → RelH C h w g → FreshIds g fresh → RVs C w g args vals →
    s.q args h fresh = some (c, v, news) → (∀ p ∈ c, p) → Calls P f vals.toArray w fun e w' => ∃ x g', e = .returned x ∧ QRes C w g fresh v news x w' g'
  loud : ∀ (C : Cx) (w : World) (g : Gh) (h : Heap) (fresh : Nat) (args : List V) (vals : List Value) (c : List Prop) (v : V) (h' : Heap), C.P = P → RelH C h w g → FreshIds g fresh → RVs C w g args vals →
    s.l args h fresh = some (c, v, h') → (∀ p ∈ c, p) → Calls P f vals.toArray w fun e w' => ∃ x g', e = .returned x ∧ WRes C w g fresh v h' x w' g'
  cps : ∀ (C : Cx) (w : World) (g : Gh) (h : Heap) (fresh : Nat) (args : List V) (vals : List Value) (K : V → Heap → Prop), C.P = P → RelH C h w g → FreshIds g fresh → (∀ id, g.U id → id < fresh) → RVs C w g args vals →
    s.k args h fresh K → Calls P f vals.toArray w fun e w' => ∃ x g' v h', e = .returned x ∧ K v h' ∧ WRes C w g fresh v h' x w' g'
theorem noK_ok {P : Program} {f : FuncId} {vals : List Value} {w : World} {args : List V} {h : Heap} {fresh : Nat} {K : V → Heap → Prop} {Q : Ending → World → Prop} (hs : noK args h fresh K) : Calls P f vals.toArray w Q := hs.elim
/-- The function has a body and is no function of the model's own. -/
def FnOk (P : Program) (f : FuncId) : Prop := ∃ fn, P.funcs[f]? = some fn ∧ fn.name ≠ "runtime.NumGoroutine" ∧ fn.body.isSome = true
/-- A function of the model's own: a value at once, nothing turned. -/
structure XOk (P : Program) (f : FuncId) (s : Spec) : Prop where
  val : ∀ (C : Cx) (w : World) (g : Gh) (h : Heap) (fresh : Nat) (args : List V) (vals : List Value) (c : List Prop) (v : V) (news : Heap), C.P = P → RelH C h w g → RVs C w g args vals →
    s.q args h fresh = some (c, v, news) → (∀ p ∈ c, p) → ∃ x, (callFunc f vals.toArray).run P w = .ok (.value x) w ∧ QRes C w g fresh v news x w g
  no : ∀ (args : List V) (h : Heap) (fresh : Nat), s.l args h fresh = none
  nok : s.k = noK
def SpOk (P : Program) (f : FuncId) (s : Spec) : Prop := (SpecOk P f s ∧ FnOk P f) ∨ XOk P f s
def SpecsOk (P : Program) (S : Specs) : Prop := ∀ f s, S f = some s → SpOk P f s

section
variable {C : Cx} {w w' : World} {g g' : Gh} {h : Heap} {T : Tab} {S : Specs} {fresh : Nat}

def Does (P : Program) (o : Oper) (a : Act) (w : World) (D : Value → World → Prop) : Prop :=
  ∀ (K : Act → World → Prop) (Q : Exit → Act → World → Prop), (∀ x w', D x w' → K (a.put o.dst x) w') → o.wp P a w K Q
theorem does_value {P : Program} {o : Oper} {a : Act} {D : Value → World → Prop} {x : Value} (h : (execOp a.eval o).run P w = .ok (.value x) w') (hD : D x w') : Does P o a w D := fun K Q hk => by
  unfold Oper.wp
  rw [h]
  exact hk _ _ hD
theorem does_skip {P : Program} {o : Oper} {a : Act} {D : Value → World → Prop} (h : (execOp a.eval o).run P w = .ok .skip w') (hD : D undef w') : Does P o a w D := fun K Q hk => by
  unfold Oper.wp
  rw [h]
  exact hk _ _ hD
theorem does_enter {P : Program} {o : Oper} {a : Act} {D : Value → World → Prop} {f : FuncId} {args : Array Value} (h : (execOp a.eval o).run P w = .ok (.enter f args) w) (hc : Calls P f args w fun e w' => ∃ x, e = .returned x ∧ D x w') : Does P o a w D := fun K Q hk => by
  unfold Oper.wp
  rw [h]
  refine hc.mono fun e w' ⟨x, he, hd⟩ => ?_
  subst he
  exact hk _ _ hd

theorem run_callFunc {P : Program} {f : FuncId} (hf : FnOk P f) (args : Array Value) : (callFunc f args).run P w = .ok (.enter f args) w := by
  obtain ⟨fn, h1, h2, h3⟩ := hf
  have h3' : ¬ fn.body = none := by intro hb; rw [hb] at h3; simp at h3
  simp [callFunc, h1, h2, h3']

theorem run_callValue {P : Program} {o : Oper} {a : Act} {x : Operand} {args : Array Operand} {ts : Array TypeId} (ho : o.op = .call ⟨.value x, args, ts⟩) {f : FuncId} {caps : Array Value} (hx : a.eval x = .func (.func f) #[] caps) (hf : FnOk P f) :
    (execOp a.eval o).run P w = .ok (.enter f ((args.map a.eval) ++ caps)) w := by
  simp [execOp, ho, resolve, Deferred.ofValue, hx, invoke, run_callFunc hf]

theorem storeV_any {t : TypeId} {a x v : V} {c : List Prop} {h' : Heap} (hs : storeV T t a x h = some (c, v, h')) : v = .any := by
  unfold storeV at hs
  repeat' (split at hs)
  all_goals first
    | (simp at hs; done)
    | (simp only [ok1, Option.some.injEq, Prod.mk.injEq] at hs; exact hs.2.1.symm)

theorem stepQ1_sound (hT : TabOk C.P T) (hS : SpecsOk C.P S) (R : RelH C h w g) (hf : FreshIds g fresh) {env : Env} {a : Act} (E : RelE C env a.tmps w g) {o : Oper} {c : List Prop} {v : V} {news : Heap}
    (hs : stepQ1 T S o fresh env h = some (c, v, news)) (hc : ∀ p ∈ c, p) : Does C.P o a w fun x w' => ∃ g', QRes C w g fresh v news x w' g' := by
  have pure1 : ∀ {s : Sem Value} {v : V} {x : Value}, (execOp a.eval o).run C.P w = (do pure (.value (← s)) : Sem Next).run C.P w → s.run C.P w = .ok x w → RV C w g v x → Does C.P o a w fun x w' => ∃ g', QRes C w g fresh v [] x w' g' := by
    intro s v x h1 h2 h3
    exact does_value (x := x) (w' := w) (by rw [h1]; simp [h2]) ⟨g, QRes.pure h3⟩
  unfold stepQ1 at hs
  split at hs
  all_goals try (simp at hs; done)
  · -- move
    rename_i x ho
    simp only [Option.some.injEq, Prod.mk.injEq] at hs
    obtain ⟨rfl, rfl, rfl⟩ := hs
    exact does_value (by simp [execOp, ho]) ⟨g, QRes.pure (rd_rel E x)⟩
  · -- assign
    rename_i x ho
    simp only [Option.some.injEq, Prod.mk.injEq] at hs
    obtain ⟨rfl, rfl, rfl⟩ := hs
    exact does_value (by simp [execOp, ho]) ⟨g, QRes.pure (rd_rel E x)⟩
  · -- pick
    rename_i x y z ho
    have hx := rd_rel E x
    split at hs
    · rename_i hb
      simp only [Option.some.injEq, Prod.mk.injEq] at hs
      obtain ⟨rfl, rfl, rfl⟩ := hs
      rw [hb] at hx
      simp only [RV] at hx
      exact does_value (by simp [execOp, ho, hx, asBool]) ⟨g, QRes.pure (rd_rel E y)⟩
    · rename_i hb
      simp only [Option.some.injEq, Prod.mk.injEq] at hs
      obtain ⟨rfl, rfl, rfl⟩ := hs
      rw [hb] at hx
      simp only [RV] at hx
      exact does_value (by simp [execOp, ho, hx, asBool]) ⟨g, QRes.pure (rd_rel E z)⟩
    · simp at hs
  · -- alloc
    rename_i te ho
    split at hs
    · rename_i i hti
      cases hone : (i.zero.map zeroV).all V.one
      · simp [hone] at hs
      simp only [hone, Option.some.injEq, Prod.mk.injEq] at hs
      obtain ⟨rfl, rfl, rfl⟩ := hs
      obtain ⟨inf, u, z, g1, g2, g3, g4, g5, g6, g7, g8⟩ := ti_of hT hti
      rw [← g7] at hone ⊢
      have hz := zero_cells (C := C) (w := w) (g := g) z.cells.toList hone
      have hq := QRes.box (fresh := fresh) (te := te) R (hf fresh (Nat.le_refl _) (by omega)) hz (RVs_one hone hz)
      exact does_value (x := .pointer (some ⟨w.heap.size, 0, none⟩)) (w' := w.alloc (.cells z.cells.toList.toArray te)) (by simp [execOp, ho, Instr.alloc, zeroValue, typeInfo, g1, g3, newVar, newRow]) ⟨_, hq⟩
    · simp at hs
  · -- box
    rename_i te x ho
    cases hone : (rd env x).cells.all V.one
    · simp [hone] at hs
    simp only [hone, Option.some.injEq, Prod.mk.injEq] at hs
    obtain ⟨rfl, rfl, rfl⟩ := hs
    have hcv := RV_cells (rd_rel E x) hone
    have hq := QRes.box (fresh := fresh) (te := te) R (hf fresh (Nat.le_refl _) (by omega)) hcv (RVs_one hone hcv)
    exact does_value (x := .pointer (some ⟨w.heap.size, 0, none⟩)) (w' := w.alloc (.cells (a.eval x).cells.toList.toArray te)) (by simp [execOp, ho, Instr.box, newVar, newRow]) ⟨_, hq⟩
  · -- build
    rename_i t parts ho
    obtain ⟨rfl, val, h1, h2⟩ := buildV_sound hT hs (partsRel_map E parts.toList)
    refine pure1 (s := Instr.build t (parts.map fun (i, x) => (i, a.eval x))) (by simp [execOp, ho]) (x := val) ?_ h2
    rw [← h1]
    congr 1
    congr 1
    apply Array.ext'
    simp
  · -- buildSlice
    rename_i t len parts ho
    obtain ⟨val, w1, g1, h1, h2⟩ := buildSliceQ_sound hT R hf hs (partsRel_map E parts.toList)
    refine does_value (x := val) (w' := w1) ?_ ⟨g1, h2⟩
    have : (parts.map fun (i, x) => (i, a.eval x)) = (parts.toList.map fun p => (p.1, a.eval p.2)).toArray := by apply Array.ext'; simp
    simp only [execOp, ho, this]
    simp [h1]
  · -- load
    rename_i t x ho
    obtain ⟨rfl, val, h1, h2⟩ := loadV_sound hT R hs hc (rd_rel E x)
    exact pure1 (by simp [execOp, ho]) h1 h2
  · -- nilCheck
    rename_i x ho
    have hx := rd_rel E x
    have hval : ∀ ad, a.eval x = .pointer (some ad) → (execOp a.eval o).run C.P w = .ok (.value (a.eval x)) w := fun ad h => by simp [execOp, ho, h]
    split at hs
    · rename_i id col hr
      simp only [Option.some.injEq, Prod.mk.injEq] at hs
      obtain ⟨rfl, rfl, rfl⟩ := hs
      rw [hr] at hx
      have hx' := hx
      simp only [RV] at hx
      obtain ⟨_, ad, _, he⟩ := hx
      exact does_value (hval _ he) ⟨g, QRes.pure hx'⟩
    · rename_i cs hr
      simp only [Option.some.injEq, Prod.mk.injEq] at hs
      obtain ⟨rfl, rfl, rfl⟩ := hs
      rw [hr] at hx
      have hx' := hx
      simp only [RV] at hx
      obtain ⟨ad, _, he, _⟩ := hx
      exact does_value (hval _ he) ⟨g, QRes.pure hx'⟩
    · rename_i id e r cc hr
      simp only [Option.some.injEq, Prod.mk.injEq] at hs
      obtain ⟨rfl, rfl, rfl⟩ := hs
      rw [hr] at hx
      have hx' := hx
      simp only [RV] at hx
      obtain ⟨_, ad, _, _, _, he⟩ := hx
      exact does_value (hval _ he) ⟨g, QRes.pure hx'⟩
    · simp at hs
  · -- binOp
    rename_i op t x y yt ho
    cases hb : binV T op t (rd env x) (rd env y) with
    | none => simp [hb, r2] at hs
    | some p =>
      obtain ⟨c', v'⟩ := p
      simp only [hb, r2, Option.some.injEq, Prod.mk.injEq] at hs
      obtain ⟨rfl, rfl, rfl⟩ := hs
      obtain ⟨val, h1, h2⟩ := binV_sound hT hb hc (rd_rel E x) (rd_rel E y) x y
      exact pure1 (s := do eqGuard op t x y (a.eval x) (a.eval y); binOp op t (a.eval x) (a.eval y)) (by simp [execOp, ho]) h1 h2
  · -- unOp
    rename_i op t x ho
    cases hb : unV op (rd env x) with
    | none => simp [hb, r2] at hs
    | some p =>
      obtain ⟨c', v'⟩ := p
      simp only [hb, r2, Option.some.injEq, Prod.mk.injEq] at hs
      obtain ⟨rfl, rfl, rfl⟩ := hs
      obtain ⟨val, h1, h2⟩ := unV_sound (P := C.P) hb (rd_rel E x)
      exact pure1 (by simp [execOp, ho]) h1 h2
  · -- convert
    rename_i src dst x ho
    obtain ⟨val, w1, g1, h1, h2⟩ := convV_sound (fresh := fresh) hT R hs hc (rd_rel E x)
    exact does_value (x := val) (w' := w1) (by simp [execOp, ho, h1]) ⟨g1, h2⟩
  · -- makeFunc
    rename_i f first caps ho
    split at hs
    · rename_i hfirst
      simp only [Option.some.injEq, Prod.mk.injEq] at hs
      obtain ⟨rfl, rfl, rfl⟩ := hs
      have h0 : first = #[] := by apply Array.ext'; simpa using hfirst
      subst h0
      refine does_value (x := .func (.func f) #[] (caps.map a.eval)) (w' := w) (by simp [execOp, ho, Instr.makeFunc]) ⟨g, QRes.pure ?_⟩
      simp only [RV]
      exact ⟨caps.toList.map a.eval, by congr 1; apply Array.ext'; simp, rds_rel E caps.toList⟩
    · simp at hs
  · -- makeSlice
    rename_i t l cc ho
    obtain ⟨val, w1, g1, h1, h2⟩ := makeSliceV_sound hT R hf hs hc (rd_rel E l) (rd_rel E cc)
    exact does_value (x := val) (w' := w1) (by simp [execOp, ho, h1]) ⟨g1, h2⟩
  · -- slice
    rename_i t x lo hi mx ho
    obtain ⟨rfl, val, h1, h2⟩ := sliceV_sound hT R hs hc (rd_rel E x) (optRel_map E lo) (optRel_map E hi) (optRel_map E mx)
    exact pure1 (by simp [execOp, ho]) h1 h2
  · -- fieldAddr
    rename_i t x f ho
    cases hb : fieldAddrV T t (rd env x) f with
    | none => simp [hb, r1] at hs
    | some p =>
      simp only [hb, r1, Option.some.injEq, Prod.mk.injEq] at hs
      obtain ⟨rfl, rfl, rfl⟩ := hs
      obtain ⟨val, h1, h2⟩ := fieldAddrV_sound hT hb (rd_rel E x)
      exact pure1 (by simp [execOp, ho]) h1 h2
  · -- field
    rename_i t x f ho
    cases hb : fieldV T t (rd env x) f with
    | none => simp [hb, r1] at hs
    | some p =>
      simp only [hb, r1, Option.some.injEq, Prod.mk.injEq] at hs
      obtain ⟨rfl, rfl, rfl⟩ := hs
      obtain ⟨val, h1, h2⟩ := fieldV_sound hT hb (rd_rel E x)
      exact pure1 (by simp [execOp, ho]) h1 h2
  · -- indexAddr
    rename_i t x ix ho
    obtain ⟨rfl, val, h1, h2⟩ := indexAddrV_sound hT R hs hc (rd_rel E x) (rd_rel E ix)
    exact pure1 (by simp [execOp, ho]) h1 h2
  · -- index
    rename_i t x ix ho
    split at hs
    · rename_i _ _ _ _ _ hti
      obtain ⟨inf, u, z, g1, g2, g3, g4, g5⟩ := ti_of hT hti
      obtain rfl := und_str g4
      cases hb : indexV (rd env ix) (rd env x) with
      | none => simp [hb, r2] at hs
      | some p =>
        obtain ⟨c', v'⟩ := p
        simp only [hb, r2, Option.some.injEq, Prod.mk.injEq] at hs
        obtain ⟨rfl, rfl, rfl⟩ := hs
        obtain ⟨val, h1, h2⟩ := indexV_sound g2 hb hc (rd_rel E x) (rd_rel E ix)
        exact pure1 (by simp [execOp, ho]) h1 h2
    · simp at hs
  · -- extract
    rename_i x j ho
    have hx := rd_rel E x
    split at hs
    · rename_i vs hr
      cases hj : vs[j]? with
      | none => simp [hj, r1] at hs
      | some p =>
        simp only [hj, r1, Option.some.injEq, Prod.mk.injEq] at hs
        obtain ⟨rfl, rfl, rfl⟩ := hs
        rw [hr] at hx
        simp only [RV] at hx
        obtain ⟨us, he, hus⟩ := hx
        obtain ⟨y, h1, h2⟩ := RVs_at hus hj
        exact does_value (x := y) (w' := w) (by simp [execOp, ho, he, Instr.extract, h1]) ⟨g, QRes.pure h2⟩
    · simp at hs
  · -- len
    rename_i args ts ho
    split at hs
    · rename_i x t h1 h2
      have e1 : args = #[x] := by apply Array.ext'; simpa using h1
      have e2 : ts = #[t] := by apply Array.ext'; simpa using h2
      subst e1; subst e2
      obtain ⟨rfl, val, h3, h4⟩ := lenV_sound hT R hs (rd_rel E x) (ty := o.type)
      exact does_value (x := val) (w' := w) (by simp [execOp, ho, resolve, invoke, builtin, h3]) ⟨g, QRes.pure h4⟩
    · simp at hs
  · -- max
    rename_i args ts ho
    split at hs
    · rename_i x y h1
      have e1 : args = #[x, y] := by apply Array.ext'; simpa using h1
      subst e1
      cases hb : extremeV true (rd env x) (rd env y) with
      | none => simp [hb, r1] at hs
      | some p =>
        simp only [hb, r1, Option.some.injEq, Prod.mk.injEq] at hs
        obtain ⟨rfl, rfl, rfl⟩ := hs
        obtain ⟨val, h3, h4⟩ := extremeV_sound (P := C.P) (ts := ts) (ty := o.type) hb (rd_rel E x) (rd_rel E y)
        exact does_value (x := val) (w' := w) (by simp at h3; simp [execOp, ho, resolve, invoke, builtin, h3]) ⟨g, QRes.pure h4⟩
    · simp at hs
  · -- min
    rename_i args ts ho
    split at hs
    · rename_i x y h1
      have e1 : args = #[x, y] := by apply Array.ext'; simpa using h1
      subst e1
      cases hb : extremeV false (rd env x) (rd env y) with
      | none => simp [hb, r1] at hs
      | some p =>
        simp only [hb, r1, Option.some.injEq, Prod.mk.injEq] at hs
        obtain ⟨rfl, rfl, rfl⟩ := hs
        obtain ⟨val, h3, h4⟩ := extremeV_sound (P := C.P) (ts := ts) (ty := o.type) hb (rd_rel E x) (rd_rel E y)
        exact does_value (x := val) (w' := w) (by simp at h3; simp [execOp, ho, resolve, invoke, builtin, h3]) ⟨g, QRes.pure h4⟩
    · simp at hs
  · -- a call
    rename_i f args ts ho
    unfold callV at hs
    have hx := rd_rel E f
    split at hs
    · rename_i fn caps hr
      rw [hr] at hx
      simp only [RV] at hx
      obtain ⟨cvs, he, hcaps⟩ := hx
      cases hsp : S fn with
      | none => simp [hsp] at hs
      | some s =>
        simp only [hsp] at hs
        have hargs : (args.map a.eval) ++ cvs.toArray = (args.toList.map a.eval ++ cvs).toArray := by apply Array.ext'; simp
        rcases hS fn s hsp with ⟨hok, hfn⟩ | hX
        rotate_left
        · obtain ⟨x, h1, h2⟩ := hX.val C w g h fresh (args.toList.map (rd env) ++ caps) (args.toList.map a.eval ++ cvs) c v news rfl R (RVs_append (rds_rel E args.toList) hcaps) hs hc
          refine does_value (x := x) (w' := w) ?_ ⟨g, h2⟩
          simp only [execOp, ho, resolve, Sem.run_bind, Sem.run_pure, Result.andThen_ok, Deferred.ofValue, he, invoke]
          rw [← hargs] at h1
          simpa using h1
        have hcall := hok.quiet C w g h fresh (args.toList.map (rd env) ++ caps) (args.toList.map a.eval ++ cvs) c v news rfl R hf (RVs_append (rds_rel E args.toList) hcaps) hs hc
        exact does_enter (run_callValue ho he hfn) (by rw [hargs]; exact hcall.mono fun e w' ⟨x, g', h1, h2⟩ => ⟨x, h1, g', h2⟩)
    · rename_i ta tb p hr
      rw [hr] at hx
      simp only [RV, LamOk] at hx
      obtain ⟨fn, caps, he, hfn, hcall⟩ := hx
      dsimp only at hs
      split at hs
      · rename_i x hargs
        split at hs
        · rename_i y hsh hden
          simp only [Option.some.injEq, Prod.mk.injEq] at hs
          obtain ⟨rfl, rfl, rfl⟩ := hs
          clear hr
          have hrs := rds_rel E args.toList
          rw [hargs] at hrs
          simp only [RVs] at hrs
          obtain ⟨xv, _, hxs, hxv, rfl⟩ := hrs
          have hcells : x.cells.all V.one = true ∧ shape ta xv := by
            cases ta <;> simp only [shapeV] at hsh
            case pair =>
              cases x <;> simp only [Bool.false_eq_true] at hsh
              simp only [RV] at hxv
              obtain ⟨vs, rfl, hvs⟩ := hxv
              exact ⟨by simpa [V.cells] using hsh, _, rfl⟩
            all_goals
              have hone : x.cells = [x] := by cases x <;> simp [V.one, V.cells] at hsh ⊢
              exact ⟨by rw [hone]; simpa using hsh, RV_one hsh hxv⟩
          have hrep := toDen_all R hden (RV_cells hxv hcells.1)
          have hc1 := hcall w g.F y xv (fun b hb => (R.keep b (R.lam.1 b hb).1).trans (R.lam.1 b hb).2) (Nat.le_trans R.lam.2 R.size) (fun _ h => h) R.F hcells.2 hrep
          have hav : (args.map a.eval) ++ caps = #[xv] ++ caps := by congr 1; apply Array.ext'; simpa using hxs
          refine does_enter (run_callValue ho he hfn) ?_
          rw [hav]
          refine hc1.mono fun e w' ⟨r, h1, h2, h3, h4⟩ => ⟨r, h1, ⟨g.anch, fun c => g.F c ∨ (w.heap.size ≤ c ∧ c < w'.heap.size), g.U⟩, ?_⟩
          exact ⟨h2, fun b hb => .inl hb, fun b hb => hb, fun id h => ⟨h, rfl⟩, fun id h => .inl h, RV_vOfDen _ _ _ h4 h3, fun _ _ h => by simp [lookN] at h, fun _ _ _ _ _ h => by simp [lookN] at h⟩
        · simp at hs
      · simp at hs
    · simp at hs

theorem stepW1_sound (hT : TabOk C.P T) (hS : SpecsOk C.P S) (R : RelH C h w g) (hf : FreshIds g fresh) {env : Env} {a : Act} (E : RelE C env a.tmps w g) {o : Oper} {c : List Prop} {v : V} {h' : Heap}
    (hs : stepW1 T S o fresh env h = some (c, v, h')) (hc : ∀ p ∈ c, p) : Does C.P o a w fun x w' => ∃ g', WRes C w g fresh v h' x w' g' := by
  unfold stepW1 at hs
  split at hs
  all_goals try (simp at hs; done)
  · -- store
    rename_i t x y ho
    cases hst : storeV T t (rd env x) (rd env y) h with
    | none => rw [hst] at hs; simp at hs
    | some p =>
      obtain ⟨c', v', h''⟩ := p
      rw [hst] at hs
      simp only [Option.some.injEq, Prod.mk.injEq] at hs
      obtain ⟨rfl, rfl, rfl⟩ := hs
      obtain ⟨w1, g1, h1, h2⟩ := storeV_sound (fresh := fresh) hT R hst hc (rd_rel E x) (rd_rel E y)
      have hv : v' = .any := storeV_any hst
      subst hv
      exact does_skip (w' := w1) (by simp [execOp, ho, h1]) ⟨g1, h2⟩
  · -- buildSlice
    rename_i t len parts ho
    obtain ⟨val, w1, g1, h1, h2⟩ := buildSliceW_sound hT R hf hs (partsRel_map E parts.toList)
    refine does_value (x := val) (w' := w1) ?_ ⟨g1, h2⟩
    have : (parts.map fun (i, x) => (i, a.eval x)) = (parts.toList.map fun p => (p.1, a.eval p.2)).toArray := by apply Array.ext'; simp
    simp only [execOp, ho, this]
    simp [h1]
  · -- convert
    rename_i src dst x ho
    obtain ⟨val, w1, g1, h1, h2⟩ := convOwnV_sound (fresh := fresh) hT R hs hc (rd_rel E x)
    exact does_value (x := val) (w' := w1) (by simp [execOp, ho, h1]) ⟨g1, h2⟩
  · -- slice
    rename_i t x lo hi mx ho
    obtain ⟨val, w1, g1, h1, h2⟩ := sliceOwnV_sound hT R hf hs hc (rd_rel E x) (optRel_map E lo) (optRel_map E hi) (optRel_map E mx)
    exact does_value (x := val) (w' := w1) (by simp [execOp, ho, h1]) ⟨g1, h2⟩
  · -- append
    rename_i args ts ho
    split at hs
    · rename_i s x t t' h1 h2
      have e1 : args = #[s, x] := by apply Array.ext'; simpa using h1
      have e2 : ts = #[t, t'] := by apply Array.ext'; simpa using h2
      subst e1; subst e2
      cases hb : Nat.beq t t'
      · simp [hb] at hs
      simp only [hb] at hs
      obtain rfl := Nat.eq_of_beq_eq_true hb
      obtain ⟨val, w1, g1, h3, h4⟩ := appendV_sound (ty := o.type) hT R hf hs hc (rd_rel E s) (rd_rel E x)
      exact does_value (x := val) (w' := w1) (by simp [execOp, ho, resolve, invoke, builtin, h3]) ⟨g1, h4⟩
    · simp at hs
  · -- copy
    rename_i args ts ho
    split at hs
    · rename_i s x t t' h1 h2
      have e1 : args = #[s, x] := by apply Array.ext'; simpa using h1
      have e2 : ts = #[t, t'] := by apply Array.ext'; simpa using h2
      subst e1; subst e2
      cases hb : Nat.beq t t'
      · simp [hb] at hs
      simp only [hb] at hs
      obtain rfl := Nat.eq_of_beq_eq_true hb
      obtain ⟨val, w1, g1, h3, h4⟩ := copyV_sound (ty := o.type) (fresh := fresh) hT R hs (rd_rel E s) (rd_rel E x)
      exact does_value (x := val) (w' := w1) (by simp [execOp, ho, resolve, invoke, builtin, h3]) ⟨g1, h4⟩
    · simp at hs
  · -- a call
    rename_i f args ts ho
    unfold callV at hs
    have hx := rd_rel E f
    split at hs
    · rename_i fn caps hr
      rw [hr] at hx
      simp only [RV] at hx
      obtain ⟨cvs, he, hcaps⟩ := hx
      cases hsp : S fn with
      | none => simp [hsp] at hs
      | some s =>
        simp only [hsp] at hs
        rcases hS fn s hsp with ⟨hok, hfn⟩ | hX
        rotate_left
        · rw [hX.no] at hs; simp at hs
        · have hcall := hok.loud C w g h fresh (args.toList.map (rd env) ++ caps) (args.toList.map a.eval ++ cvs) c v h' rfl R hf (RVs_append (rds_rel E args.toList) hcaps) hs hc
          have hargs : (args.map a.eval) ++ cvs.toArray = (args.toList.map a.eval ++ cvs).toArray := by apply Array.ext'; simp
          exact does_enter (run_callValue ho he hfn) (by rw [hargs]; exact hcall.mono fun e w' ⟨x, g', h1, h2⟩ => ⟨x, h1, g', h2⟩)
    · simp at hs
    · simp at hs

theorem stepQ2_sound (hT : TabOk C.P T) (R : RelH C h w g) (hf : FreshIds g fresh) {env : Env} {a : Act} (E : RelE C env a.tmps w g) {o : Oper} {c : List Prop} {v : V} {news : Heap}
    (hs : stepQ2 T o fresh env h = some (c, v, news)) (hc : ∀ p ∈ c, p) : Does C.P o a w fun x w' => ∃ g', QRes C w g fresh v news x w' g' := by
  have pure1 : ∀ {s : Sem Value} {v : V} {x : Value}, (execOp a.eval o).run C.P w = (do pure (.value (← s)) : Sem Next).run C.P w → s.run C.P w = .ok x w → RV C w g v x → Does C.P o a w fun x w' => ∃ g', QRes C w g fresh v [] x w' g' := by
    intro s v x h1 h2 h3
    exact does_value (x := x) (w' := w) (by rw [h1]; simp [h2]) ⟨g, QRes.pure h3⟩
  unfold stepQ2 at hs
  split at hs
  all_goals try (simp at hs; done)
  · rename_i t x ho
    obtain ⟨rfl, val, h1, h2⟩ := loadR_sound hT R hs hc (rd_rel E x)
    exact pure1 (by simp [execOp, ho]) h1 h2
  · rename_i t x ix ho
    obtain ⟨rfl, val, h1, h2⟩ := indexR_sound hT hs hc (rd_rel E x) (rd_rel E ix)
    exact pure1 (by simp [execOp, ho]) h1 h2
  · rename_i t x lo hi mx ho
    obtain ⟨rfl, val, h1, h2⟩ := sliceR_sound hT R hs hc (rd_rel E x) (optRel_map E lo) (optRel_map E hi) (optRel_map E mx)
    exact pure1 (by simp [execOp, ho]) h1 h2
  · rename_i t m ix ok ho
    obtain ⟨rfl, val, h1, h2⟩ := lookupV_sound hT R hs (rd_rel E m) (rd_rel E ix)
    exact pure1 (by simp [execOp, ho]) h1 h2
  · rename_i t ho
    obtain ⟨val, w1, g1, h1, h2⟩ := makeMapV_sound hT R hf hs
    exact does_value (x := val) (w' := w1) (by simp [execOp, ho, h1]) ⟨g1, h2⟩
  · rename_i args ts ho
    split at hs
    · rename_i x t h1 h2
      have e1 : args = #[x] := by apply Array.ext'; simpa using h1
      have e2 : ts = #[t] := by apply Array.ext'; simpa using h2
      subst e1; subst e2
      obtain ⟨rfl, val, h3, h4⟩ := lenR_sound hT R hs (rd_rel E x) (ty := o.type)
      exact does_value (x := val) (w' := w) (by simp [execOp, ho, resolve, invoke, builtin, h3]) ⟨g, QRes.pure h4⟩
    · simp at hs
  · rename_i args ts ho
    split at hs
    · rename_i x t h1 h2
      have e1 : args = #[x] := by apply Array.ext'; simpa using h1
      have e2 : ts = #[t] := by apply Array.ext'; simpa using h2
      subst e1; subst e2
      obtain ⟨rfl, val, h3, h4⟩ := capR_sound hT R hs (rd_rel E x) (ty := o.type)
      exact does_value (x := val) (w' := w) (by simp [execOp, ho, resolve, invoke, builtin, h3]) ⟨g, QRes.pure h4⟩
    · simp at hs
  · rename_i args ts ho
    split at hs
    · rename_i s x t t' h1 h2
      have e1 : args = #[s, x] := by apply Array.ext'; simpa using h1
      have e2 : ts = #[t, t'] := by apply Array.ext'; simpa using h2
      subst e1; subst e2
      cases hb : Nat.beq t t'
      · simp [hb] at hs
      simp only [hb] at hs
      obtain rfl := Nat.eq_of_beq_eq_true hb
      obtain ⟨val, w1, g1, h3, h4⟩ := appendNil_sound (ty := o.type) hT R hf hs hc (rd_rel E s) (rd_rel E x)
      exact does_value (x := val) (w' := w1) (by simp [execOp, ho, resolve, invoke, builtin, h3]) ⟨g1, h4⟩
    · simp at hs
theorem storeR_any {t : TypeId} {a x v : V} {c : List Prop} {h' : Heap} (hs : storeR T t a x h = some (c, v, h')) : v = .any := by
  unfold storeR at hs
  repeat' (split at hs)
  all_goals first
    | (simp at hs; done)
    | (simp only [Option.some.injEq, Prod.mk.injEq] at hs; exact hs.2.1.symm)
theorem stepW2_sound (hT : TabOk C.P T) (R : RelH C h w g) {env : Env} {a : Act} (E : RelE C env a.tmps w g) {o : Oper} {c : List Prop} {v : V} {h' : Heap}
    (hs : stepW2 T o fresh env h = some (c, v, h')) (hc : ∀ p ∈ c, p) : Does C.P o a w fun x w' => ∃ g', WRes C w g fresh v h' x w' g' := by
  unfold stepW2 at hs
  split at hs
  all_goals try (simp at hs; done)
  · rename_i t x y ho
    obtain ⟨w1, g1, h1, h2⟩ := storeR_sound (fresh := fresh) hT R hs hc (rd_rel E x) (rd_rel E y)
    obtain rfl := storeR_any hs
    exact does_skip (w' := w1) (by simp [execOp, ho, h1]) ⟨g1, h2⟩
  · rename_i t m ix x ho
    obtain ⟨rfl, w1, g1, h1, h2⟩ := mapPutV_sound (fresh := fresh) hT R hs (rd_rel E m) (rd_rel E ix) (rd_rel E x)
    exact does_skip (w' := w1) (by simp [execOp, ho, h1]) ⟨g1, h2⟩
  · rename_i args ts ho
    split at hs
    · rename_i s x t t' h1 h2
      have e1 : args = #[s, x] := by apply Array.ext'; simpa using h1
      have e2 : ts = #[t, t'] := by apply Array.ext'; simpa using h2
      subst e1; subst e2
      cases hb : Nat.beq t t'
      · simp [hb] at hs
      simp only [hb] at hs
      obtain rfl := Nat.eq_of_beq_eq_true hb
      obtain ⟨val, w1, g1, h3, h4⟩ := copyR_sound (ty := o.type) (fresh := fresh) hT R hs hc (rd_rel E s) (rd_rel E x)
      exact does_value (x := val) (w' := w1) (by simp [execOp, ho, resolve, invoke, builtin, h3]) ⟨g1, h4⟩
    · simp at hs
  · rename_i args ts ho
    split at hs
    · rename_i s t h1 h2
      have e1 : args = #[s] := by apply Array.ext'; simpa using h1
      have e2 : ts = #[t] := by apply Array.ext'; simpa using h2
      subst e1; subst e2
      obtain ⟨val, w1, g1, h3, h4⟩ := clearR_sound (ty := o.type) (fresh := fresh) hT R hs (rd_rel E s)
      exact does_value (x := val) (w' := w1) (by simp [execOp, ho, resolve, invoke, builtin, h3]) ⟨g1, h4⟩
    · simp at hs
  · rename_i args ts ho
    split at hs
    · rename_i m ix t rt h1 h2
      have e1 : args = #[m, ix] := by apply Array.ext'; simpa using h1
      have e2 : ts = (t :: rt).toArray := by apply Array.ext'; simpa using h2
      subst e1; subst e2
      obtain ⟨val, w1, g1, h3, h4⟩ := mapDelV_sound (ty := o.type) (ts := (t :: rt).toArray) (fresh := fresh) hT R (by simp) hs (rd_rel E m) (rd_rel E ix)
      exact does_value (x := val) (w' := w1) (by simp [execOp, ho, resolve, invoke, builtin, h3]) ⟨g1, h4⟩
    · simp at hs
theorem stepQ_sound (hT : TabOk C.P T) (hS : SpecsOk C.P S) (R : RelH C h w g) (hf : FreshIds g fresh) {env : Env} {a : Act} (E : RelE C env a.tmps w g) {o : Oper} {c : List Prop} {v : V} {news : Heap}
    (hs : stepQ T S o fresh env h = some (c, v, news)) (hc : ∀ p ∈ c, p) : Does C.P o a w fun x w' => ∃ g', QRes C w g fresh v news x w' g' := by
  unfold stepQ at hs
  split at hs
  · rename_i r hr
    simp only [Option.some.injEq] at hs
    subst hs
    exact stepQ1_sound hT hS R hf E hr hc
  · exact stepQ2_sound hT R hf E hs hc
theorem stepW_sound (hT : TabOk C.P T) (hS : SpecsOk C.P S) (R : RelH C h w g) (hf : FreshIds g fresh) {env : Env} {a : Act} (E : RelE C env a.tmps w g) {o : Oper} {c : List Prop} {v : V} {h' : Heap}
    (hs : stepW T S o fresh env h = some (c, v, h')) (hc : ∀ p ∈ c, p) : Does C.P o a w fun x w' => ∃ g', WRes C w g fresh v h' x w' g' := by
  unfold stepW at hs
  split at hs
  · rename_i r hr
    simp only [Option.some.injEq] at hs
    subst hs
    exact stepW1_sound hT hS R hf E hr hc
  · exact stepW2_sound hT R E hs hc
end
end Go.Eng
