import Derived.Test.YtlfehkoklgmjjaaEngS
/- Functions that turn the variables that they are handed (their pointers). -/
set_option linter.unusedVariables false
set_option linter.unusedSimpArgs false
namespace Go.Eng
open Go.RowKit (Below)

/-- An argument: data; a variable that the callee may turn, its cells in pieces. -/
inductive MK where
  | d (t : Ty) | m (ps : List RK)
@[reducible] def MK.den : MK → Type
  | .d t => t.den
  | .m ps => PDen ps
@[reducible] def MDen : List MK → Type
  | [] => Unit
  | k :: r => k.den × MDen r
def mutsOf : List MK → List RS
  | [] => []
  | .d _ :: r => mutsOf r
  | .m ps :: r => ⟨true, ps⟩ :: mutsOf r
def argsM : (l : List MK) → MDen l → Nat → List V
  | [], _, _ => []
  | .d t :: r, x, j => vOfDen t x.1 :: argsM r x.2 j
  | .m _ :: r, x, j => .ptr j 0 :: argsM r x.2 (j + 1)
def boxesM : (l : List MK) → MDen l → Nat → Nat → Heap
  | [], _, _, _ => []
  | .d _ :: r, x, j, k => boxesM r x.2 j k
  | .m ps :: r, x, j, k => (j, .box (psV ps x.1 k)) :: (psH ps x.1 k ++ boxesM r x.2 (j + 1) (k + psN ps))
def GoodPs : (l : List RK) → PDen l → Prop
  | [], _ => True
  | .d t :: r, x => Good t x.1 ∧ GoodPs r x.2
  | .o _ e :: r, x => Good (.slice e) x.1 ∧ GoodPs r x.2
def GoodM : (l : List MK) → MDen l → Prop
  | [], _ => True
  | .d t :: r, x => Good t x.1 ∧ GoodM r x.2
  | .m ps :: r, x => GoodPs ps x.1 ∧ GoodM r x.2

structure MSpec where
  args : List MK
  res : List RS
  pre : MDen args → Prop
  fn : MDen args → RDen (res ++ mutsOf args)

/-! ## The caller's side -/
def readMArgs (h : Heap) : (l : List MK) → List V → Option (MDen l × List Nat × List V)
  | [], [] => some ((), [], [])
  | .d t :: r, v :: vs => match readArg h false (.d t) v with
    | some x => match readMArgs h r vs with
      | some (y, ids, os) => some ((x, y), ids, os)
      | none => none
    | none => none
  | .m ps :: r, .ptr id 0 :: vs => match lookN h id with
    | some (.box cs) => match readPs h ps cs with
      | some x => match readMArgs h r vs with
        | some (y, ids, os) => some ((x, y), id :: ids, oPs ps cs ++ os)
        | none => none
      | none => none
    | _ => none
  | _, _ => none
def dCells : List MK → List V → List V
  | .d _ :: r, v :: vs => v.cells ++ dCells r vs
  | _ :: r, _ :: vs => dCells r vs
  | _, _ => []
def delAll : List Nat → Heap → Heap
  | [], h => h
  | id :: r, h => delAll r (delObj h id)
def setBoxes : List Nat → List V → Heap → Heap
  | id :: r, .agg cs :: vs, h => setBoxes r vs (setObj h id (.box cs))
  | _, _, h => h
def ownsV : List Nat → List V
  | [] => []
  | id :: r => .own id :: ownsV r
def packV : List V → V
  | [v] => v
  | vs => .tup vs
def runM (s : MSpec) (args : List V) (h : Heap) (fresh : Nat) : R :=
  match readMArgs (freezeAll h (dCells s.args args)) s.args args with
  | some (xs, ids, os) => match nodupN (ids ++ ownIds os) with
    | true => some ([s.pre xs], packV ((rsV (s.res ++ mutsOf s.args) (s.fn xs) fresh).take s.res.length),
        rsH (s.res ++ mutsOf s.args) (s.fn xs) fresh ++ setBoxes ids ((rsV (s.res ++ mutsOf s.args) (s.fn xs) fresh).drop s.res.length) (delAll (ownIds os) (freezeAll h (dCells s.args args))))
    | false => none
  | none => none
def MSpec.spec (s : MSpec) : Spec := ⟨fun _ _ _ => none, runM s, noK⟩

/-! ## The callee's side -/
def vfunM (T : Tab) (S : Specs) (keep : List (Nat × List Nat)) (fn : Func) (args : List V) (h : Heap) (Post : List V → Heap → Prop) : Prop :=
  match fn.body with
  | none => False
  | some c => vc T S keep c ⟨paramEnv 0 args, h⟩ fun e st =>
    let fin : Prop := match resVs T st fn.results.toList with
      | none => False
      | some vs => forceVs vs fun vs => Leaf (Post vs st.heap)
    match e with
    | .normal => fin
    | .ret => fin
    | _ => False
def aggsN (h : Heap) : Nat → Nat → Option (List V)
  | _, 0 => some []
  | j, n + 1 => match lookN h j with
    | some (.box cs) => match aggsN h (j + 1) n with
      | some vs => some (.agg cs :: vs)
      | none => none
    | _ => none
def readAll (l : List RS) (nm : Nat) (vs : List V) (h : Heap) : Option (RDen l) :=
  match aggsN h 0 nm with
  | some as => match nodupN (ownIds (oRs l (vs ++ as))) && Nat.ble (oRs l (vs ++ as)).length 8 with
    | true => readRs (freezeAll h (dRs l (vs ++ as))) l (vs ++ as)
    | false => none
  | none => none

section
variable {C : Cx} {w w' : World} {g g' : Gh} {h : Heap} {T : Tab} {S : Specs} {N n : Nat} {keep : List (Nat × List Nat)}

theorem vfunM_sound (hpin : pinsOf keep = C.pins) (hT : TabOk C.P T) (hS : SpecsOk C.P S) (hmix : C.P.follows .mixedOrders = true) {f : FuncId} {fn : Func} (hf : C.P.funcs[f]? = some fn) {args : List V} {vals : List Value} {Post : List V → Heap → Prop}
    (hok : (match fn.body with | some c => codeOk fn.ntmps c | none => false) = true) (hn : vals.length ≤ fn.ntmps) (hs : vfunM T S keep fn args h Post) (R : RelH C h w g) (hU : ∀ id, g.U id → id < frN C.pins h) (hv : RVs C w g args vals) :
    Calls C.P f vals.toArray w fun e w' => ∃ vs h' us g', Post vs h' ∧ e = .returned (if h : us.toArray.size = 1 then us.toArray[0] else .tuple us.toArray) ∧ RelH C h' w' g' ∧ RVs C w' g' vs us := by
  unfold vfunM at hs
  cases hb : fn.body with
  | none => simp [hb] at hs
  | some c =>
    simp only [hb] at hs hok
    refine calls_of_wp hf hb ?_
    have hsz : (vals.toArray ++ Array.replicate (fn.ntmps - vals.toArray.size) undef).size = fn.ntmps := by simp; omega
    have r : RelT C fn.ntmps ⟨paramEnv 0 args, h⟩ { tmps := vals.toArray ++ Array.replicate (fn.ntmps - vals.toArray.size) undef, defers := [] } w g := by
      refine ⟨R, fun t v ht => ?_, hU, hsz, rfl⟩
      obtain ⟨_, h2⟩ := paramEnv_look args 0 t v ht
      rw [Nat.sub_zero] at h2
      obtain ⟨x, h3, h4⟩ := RVs_at hv h2
      refine ⟨x, ?_, h4⟩
      have hlt := (List.getElem?_eq_some_iff.1 h3).1
      simp only
      rw [Array.getElem?_append_left (by simpa using hlt)]
      simpa using h3
    refine vc_sound hpin hT hS hmix c _ _ _ w g hok hs r _ fun e st a w' g' hk r => ?_
    have fin : (match resVs T st fn.results.toList with
        | none => False
        | some vs => forceVs vs fun vs => Leaf (Post vs st.heap)) → a.defers = [] ∧ ∃ v, (results fn a.tmps).run C.P w' = .ok v w' ∧ ∃ vs h' us g', Post vs h' ∧ Ending.returned v = .returned (if h : us.toArray.size = 1 then us.toArray[0] else .tuple us.toArray) ∧ RelH C h' w' g' ∧ RVs C w' g' vs us := by
      intro hk
      refine ⟨r.df, ?_⟩
      cases hr : resVs T st fn.results.toList with
      | none => rw [hr] at hk; exact hk.elim
      | some vs =>
        rw [hr] at hk
        obtain ⟨xs, h1, h2⟩ := resVs_sound hT r _ _ hr
        dsimp only at hk
        rw [forceVs_eq] at hk
        refine ⟨_, ?_, vs, st.heap, xs, g', hk.out, rfl, r.H, h2⟩
        rw [results_eq, Array.mapM_eq_mapM_toList]
        simp only [Sem.run_bind, Sem.run_map, h1, Result.andThen_ok, Sem.run_pure]
    cases e with
    | normal => exact fin hk
    | ret => exact fin hk
    | exit id => exact hk.elim
    | goto l => exact hk.elim

/-- What a piece is, its rows are good. -/
theorem psV_good : ∀ (l : List RK) (x : PDen l) (k : Nat) (us : List Value), RVs C w g (psV l x k) us → (∀ id o, lookN (psH l x k) id = some o → RO C w g id o) → GoodPs l x
  | [], _, _, _, _, _ => trivial
  | .d t :: r, x, k, us, h, ho => by
    simp only [psV] at h
    obtain ⟨us1, us2, rfl, h1, h2⟩ := RVs_split h
    exact ⟨ofDen_good t _ _ h1, psV_good r x.2 k us2 h2 ho⟩
  | .o te e :: r, x, k, us, h, ho => by
    simp only [psV, RVs] at h
    obtain ⟨u, us', rfl, h1, h2⟩ := h
    refine ⟨?_, psV_good r x.2 (k + 1) us' h2 (fun id o hid => ho id o ?_)⟩
    · have hO := ho k (.arr te e x.1) (by simp [psH, lookN])
      obtain ⟨A, cap, cells, q⟩ := view_of_arr hO
      refine ⟨Nat.le_trans q.le q.max, fun y hy => ?_⟩
      obtain ⟨i, hi, rfl⟩ := List.mem_iff_getElem.1 hy
      obtain ⟨cells', q1, q2, _, _⟩ := hO
      obtain ⟨c, q3, _⟩ := reps_at e x.1 cells' q2 i hi
      exact rep_good e _ _ q3
    · simp only [psH, lookN]
      cases hb : Nat.beq k id
      · exact hid
      · obtain rfl := Nat.eq_of_beq_eq_true hb
        exact absurd hid (by
          have := psH_up (fresh := 0) r x.2 (k + 1) k o
          intro hc
          obtain ⟨j, h1, h2, _⟩ := this (by simpa using hc)
          omega)

theorem readPs_own (R : RelH C h w g) : ∀ (l : List RK) (cs : List V) (x : PDen l), readPs h l cs = some x → ∀ i, V.own i ∈ oPs l cs → ∃ te e xs, lookN h i = some (.arr te e xs)
  | [], cs, x, _, i, hi => by simp [oPs] at hi
  | .d t :: r, cs, x, hs, i, hi => by
    simp only [readPs] at hs
    split at hs
    · rename_i y cs' hd
      split at hs
      · rename_i z hz
        obtain ⟨e1, _⟩ := toDen_split t cs y cs' hd
        simp only [oPs] at hi
        rw [e1] at hi
        exact readPs_own R r cs' z hz i hi
      · simp at hs
    · simp at hs
  | .o te e :: r, [], x, hs, i, hi => by simp [readPs] at hs
  | .o te e :: r, c :: cs, x, hs, i, hi => by
    simp only [readPs] at hs
    split at hs
    · rename_i y hy
      split at hs
      · rename_i z hz
        simp only [oPs, List.take_succ_cons, List.take_zero, List.drop_succ_cons, List.drop_zero, List.cons_append, List.nil_append, List.mem_cons] at hi
        rcases hi with rfl | hi
        · simp only [ownL] at hy
          split at hy
          · exact ⟨_, _, _, by assumption⟩
          · simp at hy
        · exact readPs_own R r cs z hz i hi
      · simp at hs
    · simp at hs
theorem readMArgs_sound {C' : Cx} (R : RelH C h w g) {g0 : Gh} {OS : List V} (hA : ∀ k, g0.anch k = oAnch g OS k) (hU : ∀ k, k < OS.length → g0.U k) (hF : ∀ b, g.F b → g0.F b)
    (hM : ∀ (k i b : Nat), OS[k]? = some (.own i) → ablk (g.anch i) = some b → MutOk C g b → MutOk C' g0 b) :
    ∀ (l : List MK) (vs : List V) (xs : MDen l) (ids : List Nat) (os : List V) (us : List Value) (j k : Nat), readMArgs h l vs = some (xs, ids, os) → RVs C w g vs us → (∀ i c, ids[i]? = some c → OS[j + i]? = some (.own c)) → (∀ i c, os[i]? = some c → OS[k + i]? = some c) →
      RVs C' w g0 (argsM l xs j) us ∧ GoodM l xs ∧ ids.length = (mutsOf l).length ∧ os.length = rsN (mutsOf l) ∧
      (∀ id o, lookN (boxesM l xs j k) id = some o → RO C' w g0 id o ∧ ∃ c, OS[id]? = some c ∧ (c = .nil ∨ ∃ i o', c = .own i ∧ lookN h i = some o' ∧ o'.mut = true)) ∧
      (∀ i ∈ ids, ∃ cs, lookN h i = some (.box cs)) ∧ (∀ i, V.own i ∈ os → ∃ te e xs, lookN h i = some (.arr te e xs)) ∧ (boxesM l xs j k).length = ids.length + os.length
  | [], [], xs, ids, os, us, j, k, hs, hv, h1, h2 => by
    simp only [readMArgs, Option.some.injEq, Prod.mk.injEq] at hs
    obtain ⟨_, rfl, rfl⟩ := hs
    exact ⟨hv, trivial, rfl, rfl, fun id o h => by simp [boxesM, lookN] at h, fun i hi => by simp at hi, fun i hi => by simp at hi, rfl⟩
  | [], v :: vs, xs, ids, os, us, j, k, hs, hv, h1, h2 => by simp [readMArgs] at hs
  | .d t :: r, [], xs, ids, os, us, j, k, hs, hv, h1, h2 => by simp [readMArgs] at hs
  | .m ps :: r, [], xs, ids, os, us, j, k, hs, hv, h1, h2 => by simp [readMArgs] at hs
  | .d t :: r, v :: vs, xs, ids, os, us, j, k, hs, hv, h1, h2 => by
    simp only [readMArgs] at hs
    split at hs
    · rename_i x hx
      split at hs
      · rename_i y ids' os' hy
        simp only [Option.some.injEq, Prod.mk.injEq] at hs
        obtain ⟨rfl, rfl, rfl⟩ := hs
        simp only [RVs] at hv
        obtain ⟨u, us', rfl, h3, h4⟩ := hv
        obtain ⟨i1, i2, i3, i4, i5, i6, i7, i8⟩ := readMArgs_sound R hA hU hF hM r vs y ids' os' us' j k hy h4 h1 h2
        simp only [readArg] at hx
        split at hx
        · rename_i hsh
          split at hx
          · rename_i z hd
            simp only [Option.some.injEq] at hx
            subst hx
            obtain ⟨q1, q2⟩ := RV_shape hsh h3
            have q3 := toDen_all R hd (RV_cells h3 q1)
            have q4 := RV_vOfDen (C := C') (g := g0) t z u (rep_mono (fun b hb => ⟨hF b hb, rfl⟩) t z _ q3) q2
            exact ⟨by simp only [argsM, RVs]; exact ⟨u, us', rfl, q4, i1⟩, ⟨rep_good t z _ q3, i2⟩, i3, i4, i5, i6, i7, i8⟩
          · simp at hx
        · simp at hx
      · simp at hs
    · simp at hs
  | .m ps :: r, v :: vs, xs, ids, os, us, j, k, hs, hv, h1, h2 => by
    have hv' : ∃ id, v = .ptr id 0 := by
      cases v with
      | ptr id col => cases col with
        | zero => exact ⟨id, rfl⟩
        | succ n => simp [readMArgs] at hs
      | _ => simp [readMArgs] at hs
    obtain ⟨id, rfl⟩ := hv'
    simp only [readMArgs] at hs
    split at hs
    · rename_i cs hl
      split at hs
      · rename_i x hx
        split at hs
        · rename_i y ids' os' hy
          simp only [Option.some.injEq, Prod.mk.injEq] at hs
          obtain ⟨rfl, rfl, rfl⟩ := hs
          simp only [RVs] at hv
          obtain ⟨u, us', rfl, h3, h4⟩ := hv
          have hlen := oPs_len ps cs x hx
          obtain ⟨i1, i2, i3, i4, i5, i6, i7, i8⟩ := readMArgs_sound R hA hU hF hM r vs y ids' os' us' (j + 1) (k + psN ps) hy h4
            (fun i c hc => by have := h1 (i + 1) c (by simpa using hc); rw [show j + 1 + i = j + (i + 1) by omega]; exact this)
            (fun i c hc => by have := h2 (psN ps + i) c (by rw [← hlen, List.getElem?_append_right (by omega), Nat.add_sub_cancel_left]; exact hc); rw [Nat.add_assoc]; exact this)
          have hj : OS[j]? = some (.own id) := by have := h1 0 id rfl; simpa using this
          obtain ⟨hUid, blk, bvs, te, q1, q2, q3, q4, q5⟩ := R.obj id _ hl
          have haj : g0.anch j = g.anch id := by rw [hA]; simp [oAnch, hj]
          have hp := readPs_sound (C' := C') R hA hU hF hM ps cs x bvs k hx q3 (fun i c hc => h2 i c (by rw [List.getElem?_append_left (List.getElem?_eq_some_iff.1 hc).1]; exact hc))
          have hjl : j < OS.length := (List.getElem?_eq_some_iff.1 hj).1
          have hpg := psV_good ps x k bvs hp.1 (fun id o ho => (hp.2 id o ho).2.2.1)
          refine ⟨?_, ⟨hpg, i2⟩, by simp [mutsOf, i3], by simp [mutsOf, rsN, i4, hlen], fun id' o ho => ?_, fun i hi => ?_, fun i hi => ?_, ?_⟩
          · simp only [argsM, RVs]
            refine ⟨u, us', rfl, ?_, i1⟩
            simp only [RV] at h3 ⊢
            exact ⟨hU j hjl, by rw [haj]; exact h3.2⟩
          · simp only [boxesM, lookN] at ho
            cases hb : Nat.beq j id'
            · rw [hb] at ho
              simp only at ho
              rw [lookN_app] at ho
              cases hq : lookN (psH ps x k) id' with
              | some o' =>
                rw [hq] at ho
                simp only [Option.some.injEq] at ho
                subst ho
                obtain ⟨p1, p2, p3, c, p4, p5⟩ := hp.2 id' o' hq
                refine ⟨p3, c, p4, ?_⟩
                rcases p5 with rfl | ⟨i, te', e', xs', rfl, p6⟩
                · exact .inl rfl
                · exact .inr ⟨i, _, rfl, p6, rfl⟩
              | none =>
                rw [hq] at ho
                exact i5 id' o ho
            · rw [hb] at ho
              obtain rfl := Nat.eq_of_beq_eq_true hb
              simp only [Option.some.injEq] at ho
              subst ho
              refine ⟨⟨blk, bvs, te, by rw [haj]; exact q1, q2, hp.1, q4, hM j id blk hj (by rw [q1]; rfl) q5⟩, _, hj, .inr ⟨id, _, rfl, hl, rfl⟩⟩
          · rcases List.mem_cons.1 hi with rfl | hi
            · exact ⟨_, hl⟩
            · exact i6 i hi
          · rcases List.mem_append.1 hi with hi | hi
            · obtain ⟨m, hm⟩ := List.mem_iff_getElem?.1 hi
              exact readPs_own R ps cs x hx i hi
            · exact i7 i hi
          · have : ∀ (l : List RK) (y : PDen l) (k : Nat), (psH l y k).length = psN l := by
              intro l
              induction l with
              | nil => intro y k; rfl
              | cons q qs ih => intro y k; cases q <;> simp [psH, psN, ih]
            simp only [boxesM, List.length_cons, List.length_append, i8, this, hlen]
            omega
        · simp at hs
      · simp at hs
    · simp at hs

theorem aggsN_get : ∀ (n j : Nat) (as : List V), aggsN h j n = some as → as.length = n ∧ ∀ i, i < n → ∃ cs, lookN h (j + i) = some (.box cs) ∧ as[i]? = some (.agg cs)
  | 0, j, as, hs => by
    simp only [aggsN, Option.some.injEq] at hs
    subst hs
    exact ⟨rfl, fun i hi => absurd hi (Nat.not_lt_zero i)⟩
  | n + 1, j, as, hs => by
    simp only [aggsN] at hs
    split at hs
    · rename_i cs hl
      split at hs
      · rename_i vs hv
        simp only [Option.some.injEq] at hs
        subst hs
        obtain ⟨h1, h2⟩ := aggsN_get n (j + 1) vs hv
        refine ⟨by simp [h1], fun i hi => ?_⟩
        cases i with
        | zero => exact ⟨cs, hl, rfl⟩
        | succ i =>
          obtain ⟨cs', h3, h4⟩ := h2 i (by omega)
          exact ⟨cs', by rw [show j + (i + 1) = j + 1 + i by omega]; exact h3, by simpa using h4⟩
      · simp at hs
    · simp at hs
theorem aggsN_vals (R : RelH C h w g) : ∀ (n j : Nat) (as : List V), aggsN h j n = some as → ∃ us, RVs C w g as us ∧ ∀ i, i < n → ∃ blk vals te, us[i]? = some (.agg vals) ∧ g.anch (j + i) = .pointer (some ⟨blk, 0, none⟩) ∧ w.heap[blk]? = some (.cells vals te (0, 0)) ∧ (∀ v ∈ vals.toList, v.oneCell' = true)
  | 0, j, as, hs => by
    simp only [aggsN, Option.some.injEq] at hs
    subst hs
    exact ⟨[], rfl, fun i hi => absurd hi (Nat.not_lt_zero i)⟩
  | n + 1, j, as, hs => by
    simp only [aggsN] at hs
    split at hs
    · rename_i cs hl
      split at hs
      · rename_i vs hv
        simp only [Option.some.injEq] at hs
        subst hs
        obtain ⟨us, h1, h2⟩ := aggsN_vals R n (j + 1) vs hv
        obtain ⟨hU, blk, bvs, te, q1, q2, q3, q4, q5⟩ := R.obj j _ hl
        refine ⟨.agg bvs.toArray :: us, ⟨_, _, rfl, by simp only [RV]; exact ⟨bvs, rfl, q3⟩, h1⟩, fun i hi => ?_⟩
        cases i with
        | zero => exact ⟨blk, bvs.toArray, te, rfl, q1, q2, q4⟩
        | succ i =>
          obtain ⟨b', v', t', h3, h4, h5⟩ := h2 i (by omega)
          exact ⟨b', v', t', by simpa using h3, by rw [show j + (i + 1) = j + 1 + i by omega]; exact h4, h5⟩
      · simp at hs
    · simp at hs
theorem freezeAll_box : ∀ (vs : List V) (h : Heap) (id : Nat) (cs : List V), lookN h id = some (.box cs) → lookN (freezeAll h vs) id = some (.box cs)
  | [], h, id, cs, hl => by simpa [freezeAll] using hl
  | v :: r, h, id, cs, hl => by
    cases v
    case own k =>
      simp only [freezeAll]
      split
      · rename_i te e xs ho
        refine freezeAll_box r _ id cs ?_
        rw [lookN_setObj]
        by_cases hk : id = k
        · subst hk; rw [ho] at hl; simp at hl
        · rw [if_neg hk]; exact hl
      · exact freezeAll_box r h id cs hl
    all_goals exact freezeAll_box r h id cs hl
theorem rsV_len : ∀ (l : List RS) (x : RDen l) (k : Nat), (rsV l x k).length = l.length
  | [], _, _ => rfl
  | r :: rs, x, k => by simp [rsV, rsV_len rs]
theorem rsV_agg : ∀ (l : List RS) (x : RDen l) (k i : Nat) (r : RS), l[i]? = some r → r.agg = true → ∃ cs, (rsV l x k)[i]? = some (.agg cs)
  | [], _, _, i, r, h, _ => by simp at h
  | q :: rs, x, k, 0, r, h, ha => by
    simp only [List.getElem?_cons_zero, Option.some.injEq] at h
    subst h
    exact ⟨psV q.ps x.1 k, by simp [rsV, ha, oneV]⟩
  | q :: rs, x, k, i + 1, r, h, ha => by
    simp only [rsV, List.getElem?_cons_succ]
    exact rsV_agg rs x.2 _ i r (by simpa using h) ha
theorem mutsOf_agg : ∀ (l : List MK) (i : Nat) (r : RS), (mutsOf l)[i]? = some r → r.agg = true
  | [], i, r, h => by simp [mutsOf] at h
  | .d _ :: l, i, r, h => mutsOf_agg l i r (by simpa [mutsOf] using h)
  | .m ps :: l, 0, r, h => by simp [mutsOf] at h; rw [← h]
  | .m ps :: l, i + 1, r, h => mutsOf_agg l i r (by simpa [mutsOf] using h)
theorem delAll_look : ∀ (l : List Nat) (h : Heap) (k : Nat), lookN (delAll l h) k = if k ∈ l then none else lookN h k
  | [], h, k => by simp [delAll]
  | id :: r, h, k => by
    simp only [delAll]
    rw [delAll_look r, lookN_delObj]
    by_cases h1 : k = id
    · subst h1; simp
    · simp [h1]
theorem setBoxes_look : ∀ (ids : List Nat) (as : List V) (h : Heap) (k : Nat), ids.Nodup → (∀ i, i < ids.length → ∃ cs : List V, as[i]? = some (V.agg cs)) →
    (∃ (i : Nat) (cs : List V), ids[i]? = some k ∧ as[i]? = some (V.agg cs) ∧ lookN (setBoxes ids as h) k = (lookN h k).map fun _ => .box cs) ∨ (k ∉ ids ∧ lookN (setBoxes ids as h) k = lookN h k)
  | [], as, h, k, _, _ => .inr ⟨by simp, by simp [setBoxes]⟩
  | id :: ids, as, h, k, hn, ha => by
    obtain ⟨cs, h0⟩ := ha 0 (by simp)
    match as, h0 with
    | a :: as, h0 =>
      simp only [List.getElem?_cons_zero, Option.some.injEq] at h0
      subst h0
      simp only [List.nodup_cons] at hn
      simp only [setBoxes]
      rcases setBoxes_look ids as (setObj h id (.box cs)) k hn.2 (fun i hi => by obtain ⟨c, hc⟩ := ha (i + 1) (by simpa using hi); exact ⟨c, by simpa using hc⟩) with ⟨i, c, h1, h2, h3⟩ | ⟨h1, h2⟩
      · left
        refine ⟨i + 1, c, by simpa using h1, by simpa using h2, ?_⟩
        rw [h3, lookN_setObj, if_neg]
        rintro rfl
        exact hn.1 (List.mem_iff_getElem?.2 ⟨i, h1⟩)
      · by_cases hk : k = id
        · subst hk
          left
          exact ⟨0, cs, rfl, rfl, by rw [h2, lookN_setObj, if_pos rfl]⟩
        · right
          refine ⟨by simp [hk, h1], ?_⟩
          rw [h2, lookN_setObj, if_neg hk]
theorem packV_rel {vs : List V} {us : List Value} (hv : RVs C w g vs us) : RV C w g (packV vs) (if h : us.toArray.size = 1 then us.toArray[0] else .tuple us.toArray) := by
  have hl := RVs_len hv
  match vs, hl, hv with
  | [], hl, hv =>
    simp only [RVs] at hv; subst hv
    simp [packV, RV, RVs]
  | [v], hl, hv =>
    simp only [RVs] at hv
    obtain ⟨x, _, rfl, h1, rfl⟩ := hv
    simpa [packV] using h1
  | v1 :: v2 :: vs, hl, hv =>
    have : ¬ us.toArray.size = 1 := by simp at hl ⊢; omega
    rw [dif_neg this]
    simp only [packV, RV]
    exact ⟨us, rfl, hv⟩
theorem ownIds_append : ∀ (a b : List V), ownIds (a ++ b) = ownIds a ++ ownIds b
  | [], b => rfl
  | v :: a, b => by cases v <;> simp [ownIds, ownIds_append a b]
theorem ownsV_ids : ∀ (l : List Nat), ownIds (ownsV l) = l
  | [] => rfl
  | a :: l => by simp [ownsV, ownIds, ownsV_ids l]
theorem ownsV_len : ∀ (l : List Nat), (ownsV l).length = l.length
  | [] => rfl
  | a :: l => by simp [ownsV, ownsV_len l]
theorem ownsV_get : ∀ (l : List Nat) (i c : Nat), l[i]? = some c → (ownsV l)[i]? = some (.own c)
  | [], i, c, h => by simp at h
  | a :: l, 0, c, h => by simp at h; subst h; rfl
  | a :: l, i + 1, c, h => by simpa [ownsV] using ownsV_get l i c (by simpa using h)
theorem ownsV_of : ∀ (l : List Nat) (i : Nat) (v : V), (ownsV l)[i]? = some v → ∃ c, l[i]? = some c ∧ v = .own c
  | [], i, c, h => by simp [ownsV] at h
  | a :: l, 0, c, h => by simp [ownsV] at h; subst h; exact ⟨a, rfl, rfl⟩
  | a :: l, i + 1, c, h => by simpa using ownsV_of l i c (by simpa [ownsV] using h)
theorem mem_ownIds : ∀ (l : List V) (i : Nat), i ∈ ownIds l ↔ V.own i ∈ l
  | [], i => by simp [ownIds]
  | v :: l, i => by cases v <;> simp [ownIds, mem_ownIds l]
end

theorem readMArgs_len {h : Heap} : ∀ {l : List MK} {vs : List V} {xs : MDen l} {ids : List Nat} {os : List V}, readMArgs h l vs = some (xs, ids, os) → ids.length = (mutsOf l).length
  | [], [], xs, ids, os, hs => by
    simp only [readMArgs, Option.some.injEq, Prod.mk.injEq] at hs
    obtain ⟨_, rfl, rfl⟩ := hs
    rfl
  | [], v :: vs, xs, ids, os, hs => by simp [readMArgs] at hs
  | .d t :: r, [], xs, ids, os, hs => by simp [readMArgs] at hs
  | .m ps :: r, [], xs, ids, os, hs => by simp [readMArgs] at hs
  | .d t :: r, v :: vs, xs, ids, os, hs => by
    simp only [readMArgs] at hs
    split at hs
    · split at hs
      · rename_i y ids' os' hy
        simp only [Option.some.injEq, Prod.mk.injEq] at hs
        obtain ⟨rfl, rfl, rfl⟩ := hs
        exact (readMArgs_len hy : ids'.length = (mutsOf r).length)
      · simp at hs
    · simp at hs
  | .m ps :: r, v :: vs, xs, ids, os, hs => by
    have hv' : ∃ id, v = .ptr id 0 := by
      cases v with
      | ptr id col => cases col with
        | zero => exact ⟨id, rfl⟩
        | succ n => simp [readMArgs] at hs
      | _ => simp [readMArgs] at hs
    obtain ⟨id, rfl⟩ := hv'
    simp only [readMArgs] at hs
    split at hs
    · split at hs
      · split at hs
        · rename_i y ids' os' hy
          simp only [Option.some.injEq, Prod.mk.injEq] at hs
          obtain ⟨rfl, rfl, rfl⟩ := hs
          simp [mutsOf, readMArgs_len hy]
        · simp at hs
      · simp at hs
    · simp at hs
theorem readMArgs_len2 {h : Heap} : ∀ {l : List MK} {vs : List V} {xs : MDen l} {ids : List Nat} {os : List V}, readMArgs h l vs = some (xs, ids, os) → vs.length = l.length
  | [], [], xs, ids, os, hs => rfl
  | [], v :: vs, xs, ids, os, hs => by simp [readMArgs] at hs
  | .d t :: r, [], xs, ids, os, hs => by simp [readMArgs] at hs
  | .m ps :: r, [], xs, ids, os, hs => by simp [readMArgs] at hs
  | .d t :: r, v :: vs, xs, ids, os, hs => by
    simp only [readMArgs] at hs
    split at hs
    · split at hs
      · rename_i y ids' os' hy
        simp [readMArgs_len2 hy]
      · simp at hs
    · simp at hs
  | .m ps :: r, v :: vs, xs, ids, os, hs => by
    have hv' : ∃ id, v = .ptr id 0 := by
      cases v with
      | ptr id col => cases col with
        | zero => exact ⟨id, rfl⟩
        | succ n => simp [readMArgs] at hs
      | _ => simp [readMArgs] at hs
    obtain ⟨id, rfl⟩ := hv'
    simp only [readMArgs] at hs
    split at hs
    · split at hs
      · split at hs
        · rename_i y ids' os' hy
          simp [readMArgs_len2 hy]
        · simp at hs
      · simp at hs
    · simp at hs
theorem oRs_len {h : Heap} : ∀ (l : List RS) (vs : List V) (x : RDen l), readRs h l vs = some x → (oRs l vs).length = rsN l
  | [], vs, x, hs => by cases vs <;> rfl
  | r :: rs, [], x, hs => by simp [readRs] at hs
  | r :: rs, v :: vs, x, hs => by
    simp only [readRs] at hs
    split at hs
    · rename_i cs hcs
      split at hs
      · rename_i y hy
        split at hs
        · rename_i z hz
          obtain ⟨c1, _, _⟩ := cellsOf_eq hcs
          simp only [oRs, rsN, List.length_append]
          rw [c1, oPs_len r.ps cs y hy, oRs_len rs vs z hz]
        · simp at hs
      · simp at hs
    · simp at hs
theorem mOk {P : Program} {T : Tab} {S : Specs} {keep : List (Nat × List Nat)} (hT : TabOk P T) (hS : SpecsOk P S) (hmix : P.follows .mixedOrders = true) {f : FuncId} {fn : Func} (hf : P.funcs[f]? = some fn) {s : MSpec}
    (hpin : pinsOf keep = (List.range (mutsOf s.args).length, (mutsOf s.args).length)) (hok : (match fn.body with | some c => codeOk fn.ntmps c | none => false) = true) (hn : s.args.length ≤ fn.ntmps)
    (hs : ∀ xs, GoodM s.args xs → s.pre xs → vfunM T S keep fn (argsM s.args xs 0) (boxesM s.args xs 0 (mutsOf s.args).length) (fun vs h' => readAll (s.res ++ mutsOf s.args) (mutsOf s.args).length vs h' = some (s.fn xs))) : SpecOk P f s.spec := by
  refine ⟨fun C w g h fresh args vals c v news hP R hfr hv hq hc => by simp [MSpec.spec] at hq, fun C w g h fresh args vals c v h' hP R0 hfr hv0 hq hc => ?_, fun C w g h fresh args vals K hP R hf hu hv hs => hs.elim⟩
  subst hP
  simp only [MSpec.spec, runM] at hq
  obtain ⟨F1, R, e1, _⟩ := freezeAll_sound (w := w) (dCells s.args args) h g R0
  have hv : RVs C w ⟨g.anch, F1, g.U⟩ args vals := RVs_mono e1 _ _ hv0
  revert hq
  generalize freezeAll h (dCells s.args args) = h1 at R ⊢
  intro hq
  split at hq
  · rename_i xs ids os hrd
    split at hq
    · rename_i hnd
      simp only [Option.some.injEq, Prod.mk.injEq] at hq
      obtain ⟨rfl, rfl, rfl⟩ := hq
      have hpre : s.pre xs := hc _ (by simp)
      have hnd := nodupN_nodup _ hnd
      let OS := ownsV ids ++ os
      have hnd' : (ownIds OS).Nodup := by simp only [OS]; rw [ownIds_append, ownsV_ids]; exact hnd
      let Mb : Nat → Prop := fun b => ∃ (k i : Nat), OS[k]? = some (.own i) ∧ ablk (g.anch i) = some b
      let C' : Cx := ⟨C.P, w, Mb, F1, (List.range (mutsOf s.args).length, (mutsOf s.args).length), oAnch ⟨g.anch, F1, g.U⟩ OS, w, fun c => c < w.heap.size ∧ ¬ Mb c⟩
      let g0 : Gh := ⟨oAnch ⟨g.anch, F1, g.U⟩ OS, F1, fun k => k < OS.length⟩
      obtain ⟨a1, a2, a3, a4, a5, a6, a7, a8⟩ := readMArgs_sound (C' := C') R (g0 := g0) (OS := OS) (fun k => rfl) (fun k hk => hk) (fun b hb => hb)
        (fun k i b h1 h2 h3 => ⟨.inl ⟨k, i, h1, h2⟩, h3.2⟩) s.args args xs ids os vals 0 (mutsOf s.args).length hrd hv
        (fun i c hi => by
          rw [Nat.zero_add]; simp only [OS]
          have := ownsV_get ids i c hi
          rw [List.getElem?_append_left (List.getElem?_eq_some_iff.1 this).1]; exact this)
        (fun i c hi => by
          have h0 : (mutsOf s.args).length = (ownsV ids).length := by rw [ownsV_len]; exact (readMArgs_len hrd).symm
          simp only [OS]
          rw [h0, List.getElem?_append_right (by omega), Nat.add_sub_cancel_left]; exact hi)
      -- what stands behind a name of the callee's
      have hOSobj : ∀ (k i : Nat), OS[k]? = some (.own i) → ∃ o, lookN h1 i = some o ∧ o.mut = true := fun k i hk => by
        have hm := List.mem_iff_getElem?.2 ⟨k, hk⟩
        simp only [OS] at hm
        rcases List.mem_append.1 hm with hm | hm
        · obtain ⟨m, hm⟩ := List.mem_iff_getElem?.1 hm
          obtain ⟨c, q1, q2⟩ := ownsV_of ids m _ hm
          simp only [V.own.injEq] at q2
          subst q2
          obtain ⟨cs, hcs⟩ := a6 i (List.mem_iff_getElem?.2 ⟨m, q1⟩)
          exact ⟨_, hcs, rfl⟩
        · obtain ⟨te, e, ys, q⟩ := a7 i hm
          exact ⟨_, q, rfl⟩
      have hMb : ∀ b, Mb b → b < w.heap.size ∧ MutOk C ⟨g.anch, F1, g.U⟩ b := fun b ⟨k, i, h2, h3⟩ => by
        obtain ⟨o, q1, q2⟩ := hOSobj k i h2
        exact RO_block (R.obj i o q1).2 q2 h3
      have hOSlen : OS.length = ids.length + os.length := by simp [OS, ownsV_len]
      have R' : RelH C' (boxesM s.args xs 0 (mutsOf s.args).length) w g0 := by
        refine ⟨fun _ _ => rfl, Nat.le_refl _, rfl, rfl, rfl, fun b hb => R.F b hb, fun b hb => .inl hb, fun j hj => ⟨by show j < OS.length; rw [hOSlen, a3]; exact Nat.lt_of_lt_of_le (List.mem_range.1 hj) (Nat.le_add_right _ _), rfl⟩, ⟨fun b hb => ⟨hb, rfl⟩, Nat.le_refl _⟩, fun id o ho => ?_, fun id o id' o' b h2 h3 m1 m2 b1 b2 => ?_⟩
        · obtain ⟨q1, c, q2, _⟩ := a5 id o ho
          exact ⟨(List.getElem?_eq_some_iff.1 q2).1, q1⟩
        · obtain ⟨_, c, q2, q3⟩ := a5 id o h2
          obtain ⟨_, c', s2, s3⟩ := a5 id' o' h3
          have e1 : g0.anch id = oAnch ⟨g.anch, F1, g.U⟩ OS id := rfl
          have e2 : g0.anch id' = oAnch ⟨g.anch, F1, g.U⟩ OS id' := rfl
          rw [e1] at b1
          rw [e2] at b2
          simp only [oAnch, q2] at b1
          simp only [oAnch, s2] at b2
          rcases q3 with rfl | ⟨i, p, rfl, p1, p2⟩
          · simp [ablk] at b1
          rcases s3 with rfl | ⟨i', p', rfl, p1', p2'⟩
          · simp [ablk] at b2
          have := R.sep i p i' p' b p1 p1' p2 p2' b1 b2
          subst this
          exact ownIds_inj OS hnd' id id' i q2 s2
      have hlv := RVs_len hv
      have hla := readMArgs_len2 hrd
      refine (vfunM_sound (C := C') (g := g0) hpin hT hS hmix hf hok (by rw [hlv, hla]; exact hn) (hs xs a2 hpre) R' (fun id hid => by
        have h0 : id < OS.length := hid
        show id < (mutsOf s.args).length + ((boxesM s.args xs 0 (mutsOf s.args).length).length - (List.range (mutsOf s.args).length).length)
        rw [a8, List.length_range]; omega) a1).mono fun e w' ⟨vs, hh, us0, g', hpost, he, R2, hus0⟩ => ?_
      refine ⟨if h : us0.toArray.size = 1 then us0.toArray[0] else Value.tuple us0.toArray, ?_⟩
      unfold readAll at hpost
      split at hpost
      · rename_i as has
        split at hpost
        · rename_i hchk
          simp only [Bool.and_eq_true] at hchk
          have hnd2 := nodupN_nodup _ hchk.1
          have hle : (oRs (s.res ++ mutsOf s.args) (vs ++ as)).length ≤ 8 := Nat.le_of_ble_eq_true hchk.2
          obtain ⟨avs, hav1, hav2⟩ := aggsN_vals R2 _ _ _ has
          obtain ⟨has1, has2⟩ := aggsN_get _ _ _ has
          obtain ⟨F2, R3, e3, hfz⟩ := freezeAll_sound (w := w') (dRs (s.res ++ mutsOf s.args) (vs ++ as)) hh g' R2
          have hlr := readRs_len _ _ _ hpost
          let l := s.res ++ mutsOf s.args
          let O2 := oRs l (vs ++ as)
          let FF : Nat → Prop := fun b => F1 b ∨ F2 b
          let g2 : Gh := ⟨oAnch ⟨g'.anch, F2, g'.U⟩ O2, FF, fun k => k < O2.length⟩
          let gb : Gh := ⟨g.anch, FF, g.U⟩
          let g3 : Gh := upG gb g2 w fresh
          have hF2 : ∀ b, F2 b → F1 b ∨ Mb b ∨ w.heap.size ≤ b := fun b hb => R3.Fin b hb
          -- who may be written in the callee's end may be written by the caller
          have hmut : ∀ b, MutOk C' ⟨g'.anch, F2, g'.U⟩ b → MutOk C g3 b := fun b ⟨q1, q2⟩ => by
            have hnF : ¬ F1 b := fun hF1 => by
              rcases q1 with q1 | q1
              · exact (hMb b q1).2.2 hF1
              · have := R.F b hF1; simp only [C'] at q1; omega
            refine ⟨?_, fun hF => ?_⟩
            · rcases q1 with q1 | q1
              · exact (hMb b q1).2.1
              · exact .inr (Nat.le_trans R.size q1)
            · rcases hF with (hF | hF) | hF
              · exact hnF hF
              · exact q2 hF
              · rcases hF.1 with hF | hF
                · exact hnF hF
                · exact q2 hF
          have hall : RVs C' w' ⟨g'.anch, F2, g'.U⟩ (vs ++ as) (us0 ++ avs) := RVs_mono e3 _ _ (RVs_append hus0 hav1)
          have hmut2 : ∀ b, MutOk C' ⟨g'.anch, F2, g'.U⟩ b → MutOk C g2 b := fun b hb => ⟨(hmut b hb).1, fun hF => (hmut b hb).2 (.inl hF)⟩
          obtain ⟨m1, m2⟩ := readRs_sound (C' := C) R3 (g2 := g2) (os := O2) (fun k => rfl) (fun k hk => hk) (fun b hb => .inr hb) (fun k i b _ _ h4 => hmut2 b h4) l (vs ++ as) (s.fn xs) (us0 ++ avs) 0 hpost hall (fun j c hc => by rw [Nat.zero_add]; exact hc)
          have hrs8 : rsN l ≤ 8 := by
            have h9 : (oRs (s.res ++ mutsOf s.args) (vs ++ as)).length = rsN (s.res ++ mutsOf s.args) := oRs_len _ _ _ hpost
            show rsN (s.res ++ mutsOf s.args) ≤ 8
            omega
          have m3 := rsV_up (C := C) (C' := C) (g := gb) (own := false) (fresh := fresh) (g1 := g2) (w := w) (w' := w') (fun b hb => .inl (.inl hb)) l (fun h => by cases h) (s.fn xs) 0 (us0 ++ avs) (by omega) m1
          rw [Nat.add_zero] at m3
          have hw : ∀ b, b < w.heap.size → ¬ Mb b → w'.heap[b]? = w.heap[b]? := fun b h2 h3 => R2.keep b ⟨h2, h3⟩
          have hF1 : ∀ b, F1 b → b < w.heap.size ∧ ¬ Mb b := fun b hb => ⟨R.F b hb, fun hM => (hMb b hM).2.2 hb⟩
          have hfa : ∀ id, g.U id → g3.U id ∧ g3.anch id = g.anch id := fun id hid => ⟨.inl hid, by
            simp only [g3, upG]
            rw [if_neg]
            intro h2
            exact hfr id h2.1 h2.2 hid⟩
          have ev : Evo w ⟨g.anch, F1, g.U⟩ w' g3 := ⟨fun b hb => ⟨.inl (.inl hb), hw b (hF1 b hb).1 (hF1 b hb).2⟩, hfa⟩
          -- names
          have hids : ∀ (i id : Nat), ids[i]? = some id → OS[i]? = some (.own id) := fun i id hi => by
            have := ownsV_get ids i id hi
            simp only [OS]
            rw [List.getElem?_append_left (List.getElem?_eq_some_iff.1 this).1]; exact this
          have hpinj : ∀ (i id : Nat), ids[i]? = some id → g'.anch i = g.anch id := fun i id hi => by
            have hlt : i < (mutsOf s.args).length := by rw [← a3]; exact (List.getElem?_eq_some_iff.1 hi).1
            rw [(R2.pin i (List.mem_range.2 hlt)).2]
            simp [C', oAnch, hids i id hi]
          have hbox3 : ∀ (i id : Nat), ids[i]? = some id → ∃ cs, lookN (freezeAll hh (dRs l (vs ++ as))) i = some (.box cs) := fun i id hi => by
            have hlt : i < (mutsOf s.args).length := by rw [← a3]; exact (List.getElem?_eq_some_iff.1 hi).1
            obtain ⟨cs, q1, _⟩ := has2 i hlt
            rw [Nat.zero_add] at q1
            exact ⟨cs, freezeAll_box _ _ _ _ q1⟩
          have hlen1 : vs.length = s.res.length := by
            simp only [List.length_append] at hlr
            omega
          have hlen0 : us0.length = s.res.length := by rw [RVs_len hus0]; exact hlen1
          -- the boxes' new cells
          have hset := fun k hk => setBoxes_look ids ((rsV l (s.fn xs) fresh).drop s.res.length) (delAll (ownIds os) h1) k (List.nodup_append.1 hnd).1 hk
          have hagg : ∀ i, i < ids.length → ∃ cs : List V, ((rsV l (s.fn xs) fresh).drop s.res.length)[i]? = some (V.agg cs) := fun i hi => by
            rw [List.getElem?_drop]
            have hlt : i < (mutsOf s.args).length := by rw [← a3]; exact hi
            have hr := List.getElem?_eq_getElem hlt
            exact rsV_agg l (s.fn xs) fresh (s.res.length + i) (mutsOf s.args)[i] (by simp only [l]; rw [List.getElem?_append_right (by omega), Nat.add_sub_cancel_left]; exact hr) (mutsOf_agg s.args i _ hr)
          have hidm : ∀ id, id ∈ ids → id ∉ ownIds os := fun id h2 h3 => (List.nodup_append.1 hnd).2.2 id h2 id h3 rfl
          -- what the caller's new heap holds
          have look : ∀ id o, lookN (rsH l (s.fn xs) fresh ++ setBoxes ids ((rsV l (s.fn xs) fresh).drop s.res.length) (delAll (ownIds os) h1)) id = some o →
              (∃ j, id = fresh + j ∧ lookN (rsH l (s.fn xs) 0) j = some o) ∨
              (∃ (i : Nat) (cs : List V), ids[i]? = some id ∧ ((rsV l (s.fn xs) fresh).drop s.res.length)[i]? = some (V.agg cs) ∧ o = .box cs) ∨
              (id ∉ ids ∧ id ∉ ownIds os ∧ lookN h1 id = some o) := fun id o ho => by
            rw [lookN_append] at ho
            cases hq : lookN (rsH l (s.fn xs) fresh) id with
            | some o' =>
              rw [hq] at ho
              simp only [Option.some_or, Option.some.injEq] at ho
              subst ho
              obtain ⟨j, h2, _, _, h3, _⟩ := rsH_up l (s.fn xs) 0 id o' hq
              exact .inl ⟨j, h2, h3⟩
            | none =>
              rw [hq] at ho
              simp only [Option.none_or] at ho
              right
              rcases hset id hagg with ⟨i, cs, h2, h3, h4⟩ | ⟨h2, h3⟩
              · left
                rw [h4, delAll_look, if_neg (hidm id (List.mem_iff_getElem?.2 ⟨i, h2⟩))] at ho
                refine ⟨i, cs, h2, h3, ?_⟩
                obtain ⟨cs0, hcs0⟩ := a6 id (List.mem_iff_getElem?.2 ⟨i, h2⟩)
                rw [hcs0] at ho
                simp only [Option.map_some, Option.some.injEq] at ho
                exact ho.symm
              · right
                rw [h3, delAll_look] at ho
                by_cases h4 : id ∈ ownIds os
                · rw [if_pos h4] at ho; simp at ho
                · rw [if_neg h4] at ho; exact ⟨h2, h4, ho⟩
          have hj8 : ∀ j o, lookN (rsH l (s.fn xs) 0) j = some o → j < 8 ∧ ∃ c, O2[j]? = some c ∧ (c = .nil ∨ ∃ i te e xs, c = .own i ∧ lookN (freezeAll hh (dRs l (vs ++ as))) i = some (.arr te e xs)) ∧ RO C w' g2 j o ∧ o.mut = true := fun j o ho => by
            obtain ⟨q1, q2, q3, c, q4, q5⟩ := m2 j o ho
            refine ⟨by omega, c, q4, q5, q3, ?_⟩
            obtain ⟨_, _, _, _, _, te, e, ys, h6, _⟩ := rsH_up (fresh := 0) l (s.fn xs) 0 j o (by simpa using ho)
            rw [h6]; rfl
          -- a new slice's block, in the callee's names
          have hnewblk : ∀ j o b, lookN (rsH l (s.fn xs) 0) j = some o → ablk (g3.anch (fresh + j)) = some b → ∃ i te e xs, O2[j]? = some (.own i) ∧ lookN (freezeAll hh (dRs l (vs ++ as))) i = some (.arr te e xs) ∧ ablk (g'.anch i) = some b := fun j o b ho hb => by
            obtain ⟨q1, c, q2, q3, _, _⟩ := hj8 j o ho
            have ea : g3.anch (fresh + j) = oAnch ⟨g'.anch, F2, g'.U⟩ O2 j := by
              simp only [g3]
              rw [up_anch q1]
            rw [ea] at hb
            simp only [oAnch, q2] at hb
            rcases q3 with rfl | ⟨i, te, e, ys, rfl, q4⟩
            · simp [ablk] at hb
            · exact ⟨i, te, e, ys, q2, q4, hb⟩
          have hcalleeMut : ∀ i o b, lookN (freezeAll hh (dRs l (vs ++ as))) i = some o → o.mut = true → ablk (g'.anch i) = some b → b < w'.heap.size ∧ MutOk C' ⟨g'.anch, F2, g'.U⟩ b := fun i o b h2 h3 h4 => RO_block (R3.obj i o h2).2 h3 h4
          have hboxblk : ∀ (i id b : Nat), ids[i]? = some id → ablk (g.anch id) = some b → ∀ k te e xs, lookN (freezeAll hh (dRs l (vs ++ as))) k = some (.arr te e xs) → ablk (g'.anch k) = some b → False := fun i id b h2 h3 k te e xs h4 h5 => by
            obtain ⟨cs, h6⟩ := hbox3 i id h2
            have := R3.sep i _ k _ b h6 h4 rfl rfl (by show ablk (g'.anch i) = some b; rw [hpinj i id h2]; exact h3) h5
            subst this
            rw [h6] at h4
            simp at h4
          have hkept : ∀ id o b, id ∉ ids → id ∉ ownIds os → lookN h1 id = some o → o.mut = true → ablk (g.anch id) = some b → b < w.heap.size ∧ ¬ Mb b ∧ ¬ F1 b ∧ ¬ F2 b := fun id o b h2 h3 h4 h5 h6 => by
            obtain ⟨q1, q2⟩ := RO_block (R.obj id o h4).2 h5 h6
            have q3 : ¬ Mb b := fun ⟨k, i, h7, h8⟩ => by
              obtain ⟨o', r1, r2⟩ := hOSobj k i h7
              have := R.sep id o i o' b h4 r1 h5 r2 h6 h8
              subst this
              have hm := List.mem_iff_getElem?.2 ⟨k, h7⟩
              simp only [OS] at hm
              rcases List.mem_append.1 hm with hm | hm
              · obtain ⟨m, hm⟩ := List.mem_iff_getElem?.1 hm
                obtain ⟨c, s1, s2⟩ := ownsV_of ids m _ hm
                simp only [V.own.injEq] at s2
                subst s2
                exact h2 (List.mem_iff_getElem?.2 ⟨m, s1⟩)
              · exact h3 ((mem_ownIds os id).2 hm)
            refine ⟨q1, q3, q2.2, fun hF => ?_⟩
            rcases hF2 b hF with h7 | h7 | h7
            · exact q2.2 h7
            · exact q3 h7
            · omega
          refine ⟨g3, he, ⟨⟨fun b hb => ?_, Nat.le_trans R.size R2.size, R2.os.trans R.os, R2.tape.trans R.tape, R2.output.trans R.output, fun b hb => ?_, fun b hb => ?_, ev.pin R.pin, R.lam, fun id o ho => ?_, fun id o id' o' b h2 h3 k1 k2 b1 b2 => ?_⟩, e1.trans ev, ?_, fun id hid => ?_⟩⟩
          · have hlt : b < w.heap.size := Nat.lt_of_lt_of_le hb.1 R.size
            refine (hw b hlt (fun hM => ?_)).trans (R.keep b hb)
            rcases (hMb b hM).2.1 with h2 | h2
            · exact hb.2 h2
            · have := hb.1; omega
          · have : ∀ b, FF b → b < w'.heap.size := fun b hb => hb.elim (fun h2 => Nat.lt_of_lt_of_le (R.F b h2) R2.size) (fun h2 => R3.F b h2)
            exact hb.elim (this b) (fun h2 => this b h2.1)
          · have : ∀ b, FF b → C.F0 b ∨ C.M0 b ∨ C.w0.heap.size ≤ b := fun b hb => by
              rcases hb with hb | hb
              · exact R.Fin b hb
              · rcases hF2 b hb with h2 | h2 | h2
                · exact R.Fin b h2
                · exact .inr (hMb b h2).2.1
                · exact .inr (.inr (Nat.le_trans R.size h2))
            exact hb.elim (this b) (fun h2 => this b h2.1)
          · rcases look id o ho with ⟨j, rfl, h2⟩ | ⟨i, cs, h2, h3, rfl⟩ | ⟨h2, h3, h4⟩
            · obtain ⟨q1, c, q2, q3, q4, q5⟩ := hj8 j o h2
              refine ⟨up_U q1 (List.getElem?_eq_some_iff.1 q2).1, ?_⟩
              have hsh : g3.anch (fresh + j) = g2.anch j := up_anch q1
              cases o with
              | arr te e ys =>
                simp only [RO] at q4 ⊢
                obtain ⟨cells, p1, p2, p3, p4⟩ := q4
                refine ⟨cells, by rw [hsh]; exact p1, reps_mono (fun b hb => ⟨.inl hb, rfl⟩) _ _ _ p2, p3, fun b hb => ?_⟩
                rw [hsh] at hb
                obtain ⟨s1, s2⟩ := p4 b hb
                refine ⟨s1, fun hF => s2 ?_⟩
                exact hF.elim (fun h => h) (fun h => h.1)
              | box cs => obtain ⟨_, _, _, _, _, te, e, ys, h6, _⟩ := rsH_up (fresh := 0) l (s.fn xs) 0 j _ (by simpa using h2); cases h6
              | ice e ys => simp [Obj.mut] at q5
              | map a b m => obtain ⟨_, _, _, _, _, te, e, ys, h6, _⟩ := rsH_up (fresh := 0) l (s.fn xs) 0 j _ (by simpa using h2); cases h6
              | raw te e ys => obtain ⟨_, _, _, _, _, te, e, ys, h6, _⟩ := rsH_up (fresh := 0) l (s.fn xs) 0 j _ (by simpa using h2); cases h6
            · obtain ⟨cs0, hcs0⟩ := a6 id (List.mem_iff_getElem?.2 ⟨i, h2⟩)
              obtain ⟨hUid, blk, bvs, te, p1, p2, p3, p4, p5⟩ := R.obj id _ hcs0
              have hlt : i < (mutsOf s.args).length := by rw [← a3]; exact (List.getElem?_eq_some_iff.1 h2).1
              obtain ⟨blk', bv', te', r1, r2, r3, r4⟩ := hav2 i hlt
              rw [Nat.zero_add] at r2
              have e5 := hpinj i id h2
              rw [r2] at e5
              have p1' : g.anch id = .pointer (some ⟨blk, 0, none⟩) := p1
              rw [p1'] at e5
              simp only [Value.pointer.injEq, Option.some.injEq, Addr.mk.injEq, and_true] at e5
              subst e5
              have hcell : RVs C w' g3 cs bv'.toList := by
                have hd := RVs_drop s.res.length m3
                obtain ⟨y, s1, s2⟩ := RVs_at hd h3
                rw [List.drop_left' hlen0, r1] at s1
                simp only [Option.some.injEq] at s1
                subst s1
                simp only [RV] at s2
                obtain ⟨zs, s3, s4⟩ := s2
                simp only [Value.agg.injEq] at s3
                subst s3
                exact s4
              refine ⟨.inl hUid, blk', bv'.toList, te', by rw [(hfa id hUid).2]; exact p1', by simpa using r3, hcell, r4, ?_⟩
              obtain ⟨ccs, h6⟩ := hbox3 i id h2
              exact hmut blk' (hcalleeMut i _ blk' h6 rfl (by rw [r2]; rfl)).2
            · obtain ⟨hUid, hO⟩ := R.obj id o h4
              refine ⟨.inl hUid, RO_mono hUid hO ev fun b hm hb => ?_⟩
              obtain ⟨q1, q2, q3, q4⟩ := hkept id o b h2 h3 h4 hm hb
              refine ⟨hw b q1 q2, fun hF => ?_⟩
              rcases hF with (hF | hF) | ⟨hF | hF, _⟩
              · exact q3 hF
              · exact q4 hF
              · exact q3 hF
              · exact q4 hF
          · -- no two share a block
            have oldb : ∀ (i : Nat) id, ids[i]? = some id → ∃ cs0, lookN h1 id = some (.box cs0) := fun i id hi => a6 id (List.mem_iff_getElem?.2 ⟨i, hi⟩)
            have anc : ∀ id o, lookN h1 id = some o → g3.anch id = g.anch id := fun id o ho => (hfa id (R.obj id o ho).1).2
            have nb : ∀ j o i id b, lookN (rsH l (s.fn xs) 0) j = some o → ablk (g3.anch (fresh + j)) = some b → ids[i]? = some id → ablk (g3.anch id) = some b → False := fun j o i id b q1 q2 q3 q4 => by
              obtain ⟨k, te, e, ys, s1, s2, s3⟩ := hnewblk j o b q1 q2
              obtain ⟨cs0, hcs0⟩ := oldb i id q3
              rw [anc id _ hcs0] at q4
              exact hboxblk i id b q3 q4 k te e ys s2 s3
            have nk : ∀ j o id o' b, lookN (rsH l (s.fn xs) 0) j = some o → ablk (g3.anch (fresh + j)) = some b → id ∉ ids → id ∉ ownIds os → lookN h1 id = some o' → o'.mut = true → ablk (g3.anch id) = some b → False := fun j o id o' b q1 q2 q3 q4 q5 q6 q7 => by
              obtain ⟨k, te, e, ys, s1, s2, s3⟩ := hnewblk j o b q1 q2
              rw [anc id _ q5] at q7
              obtain ⟨t1, t2, _, _⟩ := hkept id o' b q3 q4 q5 q6 q7
              rcases (hcalleeMut k _ b s2 rfl s3).2.1 with t3 | t3
              · exact t2 t3
              · have : w.heap.size ≤ b := t3
                omega
            rcases look id o h2 with ⟨j, rfl, q1⟩ | ⟨i, cs, q1, q2, rfl⟩ | ⟨q1, q2, q3⟩ <;> rcases look id' o' h3 with ⟨j', rfl, r1⟩ | ⟨i', cs', r1, r2, rfl⟩ | ⟨r1, r2, r3⟩
            · obtain ⟨k, te, e, ys, s1, s2, s3⟩ := hnewblk j o b q1 b1
              obtain ⟨k', te', e', ys', t1, t2, t3⟩ := hnewblk j' o' b r1 b2
              have := R3.sep k _ k' _ b s2 t2 rfl rfl s3 t3
              subst this
              rw [ownIds_inj O2 hnd2 j j' k s1 t1]
            · exact (nb j o i' id' b q1 b1 r1 b2).elim
            · exact (nk j o id' o' b q1 b1 r1 r2 r3 k2 b2).elim
            · exact (nb j' o' i id b r1 b2 q1 b1).elim
            · obtain ⟨c1, d1⟩ := oldb i id q1
              obtain ⟨c2, d2⟩ := oldb i' id' r1
              rw [anc id _ d1] at b1
              rw [anc id' _ d2] at b2
              exact R.sep id _ id' _ b d1 d2 rfl rfl b1 b2
            · obtain ⟨c1, d1⟩ := oldb i id q1
              rw [anc id _ d1] at b1
              rw [anc id' _ r3] at b2
              exact R.sep id _ id' _ b d1 r3 rfl k2 b1 b2
            · exact (nk j' o' id o b r1 b2 q1 q2 q3 k1 b1).elim
            · obtain ⟨c2, d2⟩ := oldb i' id' r1
              rw [anc id _ q3] at b1
              rw [anc id' _ d2] at b2
              exact R.sep id _ id' _ b q3 d2 k1 rfl b1 b2
            · rw [anc id _ q3] at b1
              rw [anc id' _ r3] at b2
              exact R.sep id _ id' _ b q3 r3 k1 k2 b1 b2
          · have ht := RVs_take s.res.length m3
            rw [List.take_left' hlen0] at ht
            exact packV_rel ht
          · rcases hid with hid | hid
            · exact .inl hid
            · exact .inr ⟨hid.1, hid.2.1⟩
        · simp at hpost
      · simp at hpost
    · simp at hq
  · simp at hq
end Go.Eng
