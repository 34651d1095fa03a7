import Derived.Test.YtjifalccioebnaaEng3
import Derived.Lib.BytesEntry
import Derived.Laws.Externs
import Derived.Lib.Overlaps
/- Texts, one behind the other. -/
set_option linter.unusedVariables false
set_option linter.unusedSimpArgs false
namespace Go.Eng
open Go.RowKit (Below)
inductive MK where
  | d (t : Ty) | m (ps : List RK)
@[reducible] def MK.den : MK → Type
  | .d t => t.den
  | .m ps => PDen ps
@[reducible] def MDen : List MK → Type
  | [] => Unit
  | k :: r => k.den × MDen r
def mutsOf : List MK → List RS
  | [] => []
  | .d _ :: r => mutsOf r
  | .m ps :: r => ⟨true, ps⟩ :: mutsOf r
def argsM : (l : List MK) → MDen l → Nat → List V
  | [], _, _ => []
  | .d t :: r, x, j => vOfDen t x.1 :: argsM r x.2 j
  | .m _ :: r, x, j => .ptr j 0 :: argsM r x.2 (j + 1)
def boxesM : (l : List MK) → MDen l → Nat → Nat → Heap
  | [], _, _, _ => []
  | .d _ :: r, x, j, k => boxesM r x.2 j k
  | .m ps :: r, x, j, k => (j, .box (psV ps x.1 k)) :: (psH ps x.1 k ++ boxesM r x.2 (j + 1) (k + psN ps))
def GoodPs : (l : List RK) → PDen l → Prop
  | [], _ => True
  | .d t :: r, x => Good t x.1 ∧ GoodPs r x.2
  | .o _ e :: r, x => Good (.slice e) x.1 ∧ GoodPs r x.2
def GoodM : (l : List MK) → MDen l → Prop
  | [], _ => True
  | .d t :: r, x => Good t x.1 ∧ GoodM r x.2
  | .m ps :: r, x => GoodPs ps x.1 ∧ GoodM r x.2

structure MSpec where
  args : List MK
  res : List RS
  pre : MDen args → Prop
  fn : MDen args → RDen (res ++ mutsOf args)

def readMArgs (h : Heap) : (l : List MK) → List V → Option (MDen l × List Nat × List V)
  | [], [] => some ((), [], [])
  | .d t :: r, v :: vs => match readArg h false (.d t) v with
    | some x => match readMArgs h r vs with
      | some (y, ids, os) => some ((x, y), ids, os)
      | none => none
    | none => none
  | .m ps :: r, .ptr id 0 :: vs => match lookN h id with
    | some (.box cs) => match readPs h ps cs with
      | some x => match readMArgs h r vs with
        | some (y, ids, os) => some ((x, y), id :: ids, oPs ps cs ++ os)
        | none => none
      | none => none
    | _ => none
  | _, _ => none
def dCells : List MK → List V → List V
  | .d _ :: r, v :: vs => v.cells ++ dCells r vs
  | _ :: r, _ :: vs => dCells r vs
  | _, _ => []
def delAll : List Nat → Heap → Heap
  | [], h => h
  | id :: r, h => delAll r (delObj h id)
def setBoxes : List Nat → List V → Heap → Heap
  | id :: r, .agg cs :: vs, h => setBoxes r vs (setObj h id (.box cs))
  | _, _, h => h
def ownsV : List Nat → List V
  | [] => []
  | id :: r => .own id :: ownsV r
def packV : List V → V
  | [v] => v
  | vs => .tup vs
def runM (s : MSpec) (args : List V) (h : Heap) (fresh : Nat) : R :=
  match readMArgs (freezeAll h (dCells s.args args)) s.args args with
  | some (xs, ids, os) => match nodupN (ids ++ ownIds os) with
    | true => some ([s.pre xs], packV ((rsV (s.res ++ mutsOf s.args) (s.fn xs) fresh).take s.res.length),
        rsH (s.res ++ mutsOf s.args) (s.fn xs) fresh ++ setBoxes ids ((rsV (s.res ++ mutsOf s.args) (s.fn xs) fresh).drop s.res.length) (delAll (ownIds os) (freezeAll h (dCells s.args args))))
    | false => none
  | none => none
def runT (s : MSpec) (args : List V) (h : Heap) (fresh : Nat) : Option (List Prop × V × Nat × Obj) :=
  match ownIds (dCells s.args args), rsN (s.res ++ mutsOf s.args) with
  | [], 0 => match readMArgs h s.args args with
    | some (xs, [id], []) => match (rsV (s.res ++ mutsOf s.args) (s.fn xs) fresh).drop s.res.length with
      | [.agg cs] => some ([s.pre xs], packV ((rsV (s.res ++ mutsOf s.args) (s.fn xs) fresh).take s.res.length), id, .box cs)
      | _ => none
    | _ => none
  | _, _ => none
def MSpec.spec (s : MSpec) : Spec := ⟨fun _ _ _ => none, runM s, noK, runT s⟩

def vfunM (T : Tab) (S : Specs) (keep : List (Nat × List Nat)) (fn : Func) (args : List V) (h : Heap) (Post : List V → Heap → Prop) : Prop :=
  match fn.body with
  | none => False
  | some c => vc T S keep c ⟨paramEnv 0 args, h⟩ fun e st =>
    let fin : Prop := match resVs T st fn.results.toList with
      | none => False
      | some vs => forceVs vs fun vs => Leaf (Post vs st.heap)
    match e with
    | .normal => fin
    | .ret => fin
    | _ => False
def aggsN (h : Heap) : Nat → Nat → Option (List V)
  | _, 0 => some []
  | j, n + 1 => match lookN h j with
    | some (.box cs) => match aggsN h (j + 1) n with
      | some vs => some (.agg cs :: vs)
      | none => none
    | _ => none
def readAll (l : List RS) (nm : Nat) (vs : List V) (h : Heap) : Option (RDen l) :=
  match aggsN h 0 nm with
  | some as => match nodupN (ownIds (oRs l (vs ++ as))) && Nat.ble (oRs l (vs ++ as)).length 8 with
    | true => readRs (freezeAll h (dRs l (vs ++ as))) l (vs ++ as)
    | false => none
  | none => none

section
variable {C : Cx} {w w' : World} {g g' : Gh} {h : Heap} {T : Tab} {S : Specs} {N n : Nat} {keep : List (Nat × List Nat)}
theorem vfunM_sound (hpin : pinsOf keep = C.pins) (hT : TabOk C.P T) (hS : SpecsOk C.P S) (hmix : C.P.follows .mixedOrders = true) {f : FuncId} {fn : Func} (hf : C.P.funcs[f]? = some fn) {args : List V} {vals : List Value} {Post : List V → Heap → Prop}
    (hok : (match fn.body with | some c => codeOk fn.ntmps c | none => false) = true) (hn : vals.length ≤ fn.ntmps) (hs : vfunM T S keep fn args h Post) (R : RelH C h w g) (hU : ∀ id, g.U id → id < frN C.pins h) (hv : RVs C w g args vals) :
    Calls C.P f vals.toArray w fun e w' => ∃ vs h' us g', Post vs h' ∧ e = .returned (if h : us.toArray.size = 1 then us.toArray[0] else .tuple us.toArray) ∧ RelH C h' w' g' ∧ RVs C w' g' vs us := by
  unfold vfunM at hs
  cases hb : fn.body with
  | none => simp [hb] at hs
  | some c =>
    simp only [hb] at hs hok
    refine calls_of_wp hf hb ?_
    have hsz : (vals.toArray ++ Array.replicate (fn.ntmps - vals.toArray.size) undef).size = fn.ntmps := by simp; omega
    have r : RelT C fn.ntmps ⟨paramEnv 0 args, h⟩ { tmps := vals.toArray ++ Array.replicate (fn.ntmps - vals.toArray.size) undef, defers := [] } w g := by
      refine ⟨R, fun t v ht => ?_, hU, hsz, rfl⟩
      obtain ⟨_, h2⟩ := paramEnv_look args 0 t v ht
      rw [Nat.sub_zero] at h2
      obtain ⟨x, h3, h4⟩ := RVs_at hv h2
      refine ⟨x, ?_, h4⟩
      have hlt := (List.getElem?_eq_some_iff.1 h3).1
      simp only
      rw [Array.getElem?_append_left (by simpa using hlt)]
      simpa using h3
    refine vc_sound hpin hT hS hmix c _ _ _ w g hok hs r _ fun e st a w' g' hk r => ?_
    have fin : (match resVs T st fn.results.toList with
        | none => False
        | some vs => forceVs vs fun vs => Leaf (Post vs st.heap)) → a.defers = [] ∧ ∃ v, (results fn a.tmps).run C.P w' = .ok v w' ∧ ∃ vs h' us g', Post vs h' ∧ Ending.returned v = .returned (if h : us.toArray.size = 1 then us.toArray[0] else .tuple us.toArray) ∧ RelH C h' w' g' ∧ RVs C w' g' vs us := by
      intro hk
      refine ⟨r.df, ?_⟩
      cases hr : resVs T st fn.results.toList with
      | none => rw [hr] at hk; exact hk.elim
      | some vs =>
        rw [hr] at hk
        obtain ⟨xs, h1, h2⟩ := resVs_sound hT r _ _ hr
        dsimp only at hk
        rw [forceVs_eq] at hk
        refine ⟨_, ?_, vs, st.heap, xs, g', hk.out, rfl, r.H, h2⟩
        rw [results_eq, Array.mapM_eq_mapM_toList]
        simp only [Sem.run_bind, Sem.run_map, h1, Result.andThen_ok, Sem.run_pure]
    cases e with
    | normal => exact fin hk
    | ret => exact fin hk
    | exit id => exact hk.elim
    | goto l => exact hk.elim

theorem psV_good : ∀ (l : List RK) (x : PDen l) (k : Nat) (us : List Value), RVs C w g (psV l x k) us → (∀ id o, lookN (psH l x k) id = some o → RO C w g id o) → GoodPs l x
  | [], _, _, _, _, _ => trivial
  | .d t :: r, x, k, us, h, ho => by
    simp only [psV] at h
    obtain ⟨us1, us2, rfl, h1, h2⟩ := RVs_split h
    exact ⟨ofDen_good t _ _ h1, psV_good r x.2 k us2 h2 ho⟩
  | .o te e :: r, x, k, us, h, ho => by
    simp only [psV, RVs] at h
    obtain ⟨u, us', rfl, h1, h2⟩ := h
    refine ⟨?_, psV_good r x.2 (k + 1) us' h2 (fun id o hid => ho id o ?_)⟩
    · have hO := ho k (.arr te e x.1) (by simp [psH, lookN])
      obtain ⟨A, cap, cells, q⟩ := view_of_arr hO
      refine ⟨Nat.le_trans q.le q.max, fun y hy => ?_⟩
      obtain ⟨i, hi, rfl⟩ := List.mem_iff_getElem.1 hy
      obtain ⟨cells', q1, q2, _, _⟩ := hO
      obtain ⟨c, q3, _⟩ := reps_at e x.1 cells' q2 i hi
      exact rep_good e _ _ q3
    · simp only [psH, lookN]
      cases hb : Nat.beq k id
      · exact hid
      · obtain rfl := Nat.eq_of_beq_eq_true hb
        exact absurd hid (by
          have := psH_up (fresh := 0) r x.2 (k + 1) k o
          intro hc
          obtain ⟨j, h1, h2, _⟩ := this (by simpa using hc)
          omega)

theorem readPs_own (R : RelH C h w g) : ∀ (l : List RK) (cs : List V) (x : PDen l), readPs h l cs = some x → ∀ i, V.own i ∈ oPs l cs → ∃ te e xs, lookN h i = some (.arr te e xs)
  | [], cs, x, _, i, hi => by simp [oPs] at hi
  | .d t :: r, cs, x, hs, i, hi => by
    simp only [readPs] at hs
    split at hs
    · rename_i y cs' hd
      split at hs
      · rename_i z hz
        obtain ⟨e1, _⟩ := toDen_split t cs y cs' hd
        simp only [oPs] at hi
        rw [e1] at hi
        exact readPs_own R r cs' z hz i hi
      · simp at hs
    · simp at hs
  | .o te e :: r, [], x, hs, i, hi => by simp [readPs] at hs
  | .o te e :: r, c :: cs, x, hs, i, hi => by
    simp only [readPs] at hs
    split at hs
    · rename_i y hy
      split at hs
      · rename_i z hz
        simp only [oPs, List.take_succ_cons, List.take_zero, List.drop_succ_cons, List.drop_zero, List.cons_append, List.nil_append, List.mem_cons] at hi
        rcases hi with rfl | hi
        · simp only [ownL] at hy
          split at hy
          · exact ⟨_, _, _, by assumption⟩
          · simp at hy
        · exact readPs_own R r cs z hz i hi
      · simp at hs
    · simp at hs
theorem readMArgs_sound {C' : Cx} (R : RelH C h w g) {g0 : Gh} {OS : List V} (hA : ∀ k, g0.anch k = oAnch g OS k) (hU : ∀ k, k < OS.length → g0.U k) (hF : ∀ b, g.F b → g0.F b)
    (hM : ∀ (k i b : Nat), OS[k]? = some (.own i) → ablk (g.anch i) = some b → MutOk C g b → MutOk C' g0 b) :
    ∀ (l : List MK) (vs : List V) (xs : MDen l) (ids : List Nat) (os : List V) (us : List Value) (j k : Nat), readMArgs h l vs = some (xs, ids, os) → RVs C w g vs us → (∀ i c, ids[i]? = some c → OS[j + i]? = some (.own c)) → (∀ i c, os[i]? = some c → OS[k + i]? = some c) →
      RVs C' w g0 (argsM l xs j) us ∧ GoodM l xs ∧ ids.length = (mutsOf l).length ∧ os.length = rsN (mutsOf l) ∧
      (∀ id o, lookN (boxesM l xs j k) id = some o → RO C' w g0 id o ∧ ∃ c, OS[id]? = some c ∧ (c = .nil ∨ ∃ i o', c = .own i ∧ lookN h i = some o' ∧ o'.mut = true)) ∧
      (∀ i ∈ ids, ∃ cs, lookN h i = some (.box cs)) ∧ (∀ i, V.own i ∈ os → ∃ te e xs, lookN h i = some (.arr te e xs)) ∧ (boxesM l xs j k).length = ids.length + os.length
  | [], [], xs, ids, os, us, j, k, hs, hv, h1, h2 => by
    simp only [readMArgs, Option.some.injEq, Prod.mk.injEq] at hs
    obtain ⟨_, rfl, rfl⟩ := hs
    exact ⟨hv, trivial, rfl, rfl, fun id o h => by simp [boxesM, lookN] at h, fun i hi => by simp at hi, fun i hi => by simp at hi, rfl⟩
  | [], v :: vs, xs, ids, os, us, j, k, hs, hv, h1, h2 => by simp [readMArgs] at hs
  | .d t :: r, [], xs, ids, os, us, j, k, hs, hv, h1, h2 => by simp [readMArgs] at hs
  | .m ps :: r, [], xs, ids, os, us, j, k, hs, hv, h1, h2 => by simp [readMArgs] at hs
  | .d t :: r, v :: vs, xs, ids, os, us, j, k, hs, hv, h1, h2 => by
    simp only [readMArgs] at hs
    split at hs
    · rename_i x hx
      split at hs
      · rename_i y ids' os' hy
        simp only [Option.some.injEq, Prod.mk.injEq] at hs
        obtain ⟨rfl, rfl, rfl⟩ := hs
        simp only [RVs] at hv
        obtain ⟨u, us', rfl, h3, h4⟩ := hv
        obtain ⟨i1, i2, i3, i4, i5, i6, i7, i8⟩ := readMArgs_sound R hA hU hF hM r vs y ids' os' us' j k hy h4 h1 h2
        simp only [readArg] at hx
        split at hx
        · rename_i hsh
          split at hx
          · rename_i z hd
            simp only [Option.some.injEq] at hx
            subst hx
            obtain ⟨q1, q2⟩ := RV_shape hsh h3
            have q3 := toDen_all R hd (RV_cells h3 q1)
            have q4 := RV_vOfDen (C := C') (g := g0) t z u (rep_mono (fun b hb => ⟨hF b hb, rfl⟩) t z _ q3) q2
            exact ⟨by simp only [argsM, RVs]; exact ⟨u, us', rfl, q4, i1⟩, ⟨rep_good t z _ q3, i2⟩, i3, i4, i5, i6, i7, i8⟩
          · simp at hx
        · simp at hx
      · simp at hs
    · simp at hs
  | .m ps :: r, v :: vs, xs, ids, os, us, j, k, hs, hv, h1, h2 => by
    have hv' : ∃ id, v = .ptr id 0 := by
      cases v with
      | ptr id col => cases col with
        | zero => exact ⟨id, rfl⟩
        | succ n => simp [readMArgs] at hs
      | _ => simp [readMArgs] at hs
    obtain ⟨id, rfl⟩ := hv'
    simp only [readMArgs] at hs
    split at hs
    · rename_i cs hl
      split at hs
      · rename_i x hx
        split at hs
        · rename_i y ids' os' hy
          simp only [Option.some.injEq, Prod.mk.injEq] at hs
          obtain ⟨rfl, rfl, rfl⟩ := hs
          simp only [RVs] at hv
          obtain ⟨u, us', rfl, h3, h4⟩ := hv
          have hlen := oPs_len ps cs x hx
          obtain ⟨i1, i2, i3, i4, i5, i6, i7, i8⟩ := readMArgs_sound R hA hU hF hM r vs y ids' os' us' (j + 1) (k + psN ps) hy h4
            (fun i c hc => by have := h1 (i + 1) c (by simpa using hc); rw [show j + 1 + i = j + (i + 1) by omega]; exact this)
            (fun i c hc => by have := h2 (psN ps + i) c (by rw [← hlen, List.getElem?_append_right (by omega), Nat.add_sub_cancel_left]; exact hc); rw [Nat.add_assoc]; exact this)
          have hj : OS[j]? = some (.own id) := by have := h1 0 id rfl; simpa using this
          obtain ⟨hUid, blk, bvs, te, q1, q2, q3, q4, q5⟩ := R.obj id _ hl
          have haj : g0.anch j = g.anch id := by rw [hA]; simp [oAnch, hj]
          have hp := readPs_sound (C' := C') R hA hU hF hM ps cs x bvs k hx q3 (fun i c hc => h2 i c (by rw [List.getElem?_append_left (List.getElem?_eq_some_iff.1 hc).1]; exact hc))
          have hjl : j < OS.length := (List.getElem?_eq_some_iff.1 hj).1
          have hpg := psV_good ps x k bvs hp.1 (fun id o ho => (hp.2 id o ho).2.2.1)
          refine ⟨?_, ⟨hpg, i2⟩, by simp [mutsOf, i3], by simp [mutsOf, rsN, i4, hlen], fun id' o ho => ?_, fun i hi => ?_, fun i hi => ?_, ?_⟩
          · simp only [argsM, RVs]
            refine ⟨u, us', rfl, ?_, i1⟩
            simp only [RV] at h3 ⊢
            exact ⟨hU j hjl, by rw [haj]; exact h3.2⟩
          · simp only [boxesM, lookN] at ho
            cases hb : Nat.beq j id'
            · rw [hb] at ho
              simp only at ho
              rw [lookN_app] at ho
              cases hq : lookN (psH ps x k) id' with
              | some o' =>
                rw [hq] at ho
                simp only [Option.some.injEq] at ho
                subst ho
                obtain ⟨p1, p2, p3, c, p4, p5⟩ := hp.2 id' o' hq
                refine ⟨p3, c, p4, ?_⟩
                rcases p5 with rfl | ⟨i, te', e', xs', rfl, p6⟩
                · exact .inl rfl
                · exact .inr ⟨i, _, rfl, p6, rfl⟩
              | none =>
                rw [hq] at ho
                exact i5 id' o ho
            · rw [hb] at ho
              obtain rfl := Nat.eq_of_beq_eq_true hb
              simp only [Option.some.injEq] at ho
              subst ho
              refine ⟨⟨blk, bvs, te, by rw [haj]; exact q1, q2, hp.1, q4, hM j id blk hj (by rw [q1]; rfl) q5⟩, _, hj, .inr ⟨id, _, rfl, hl, rfl⟩⟩
          · rcases List.mem_cons.1 hi with rfl | hi
            · exact ⟨_, hl⟩
            · exact i6 i hi
          · rcases List.mem_append.1 hi with hi | hi
            · obtain ⟨m, hm⟩ := List.mem_iff_getElem?.1 hi
              exact readPs_own R ps cs x hx i hi
            · exact i7 i hi
          · have : ∀ (l : List RK) (y : PDen l) (k : Nat), (psH l y k).length = psN l := by
              intro l
              induction l with
              | nil => intro y k; rfl
              | cons q qs ih => intro y k; cases q <;> simp [psH, psN, ih]
            simp only [boxesM, List.length_cons, List.length_append, i8, this, hlen]
            omega
        · simp at hs
      · simp at hs
    · simp at hs

theorem aggsN_get : ∀ (n j : Nat) (as : List V), aggsN h j n = some as → as.length = n ∧ ∀ i, i < n → ∃ cs, lookN h (j + i) = some (.box cs) ∧ as[i]? = some (.agg cs)
  | 0, j, as, hs => by
    simp only [aggsN, Option.some.injEq] at hs
    subst hs
    exact ⟨rfl, fun i hi => absurd hi (Nat.not_lt_zero i)⟩
  | n + 1, j, as, hs => by
    simp only [aggsN] at hs
    split at hs
    · rename_i cs hl
      split at hs
      · rename_i vs hv
        simp only [Option.some.injEq] at hs
        subst hs
        obtain ⟨h1, h2⟩ := aggsN_get n (j + 1) vs hv
        refine ⟨by simp [h1], fun i hi => ?_⟩
        cases i with
        | zero => exact ⟨cs, hl, rfl⟩
        | succ i =>
          obtain ⟨cs', h3, h4⟩ := h2 i (by omega)
          exact ⟨cs', by rw [show j + (i + 1) = j + 1 + i by omega]; exact h3, by simpa using h4⟩
      · simp at hs
    · simp at hs
theorem aggsN_vals (R : RelH C h w g) : ∀ (n j : Nat) (as : List V), aggsN h j n = some as → ∃ us, RVs C w g as us ∧ ∀ i, i < n → ∃ blk vals te, us[i]? = some (.agg vals) ∧ g.anch (j + i) = .pointer (some ⟨blk, 0, none⟩) ∧ w.heap[blk]? = some (.cells vals te (0, 0)) ∧ (∀ v ∈ vals.toList, v.oneCell' = true)
  | 0, j, as, hs => by
    simp only [aggsN, Option.some.injEq] at hs
    subst hs
    exact ⟨[], rfl, fun i hi => absurd hi (Nat.not_lt_zero i)⟩
  | n + 1, j, as, hs => by
    simp only [aggsN] at hs
    split at hs
    · rename_i cs hl
      split at hs
      · rename_i vs hv
        simp only [Option.some.injEq] at hs
        subst hs
        obtain ⟨us, h1, h2⟩ := aggsN_vals R n (j + 1) vs hv
        obtain ⟨hU, blk, bvs, te, q1, q2, q3, q4, q5⟩ := R.obj j _ hl
        refine ⟨.agg bvs.toArray :: us, ⟨_, _, rfl, by simp only [RV]; exact ⟨bvs, rfl, q3⟩, h1⟩, fun i hi => ?_⟩
        cases i with
        | zero => exact ⟨blk, bvs.toArray, te, rfl, q1, q2, q4⟩
        | succ i =>
          obtain ⟨b', v', t', h3, h4, h5⟩ := h2 i (by omega)
          exact ⟨b', v', t', by simpa using h3, by rw [show j + (i + 1) = j + 1 + i by omega]; exact h4, h5⟩
      · simp at hs
    · simp at hs
theorem freezeAll_box : ∀ (vs : List V) (h : Heap) (id : Nat) (cs : List V), lookN h id = some (.box cs) → lookN (freezeAll h vs) id = some (.box cs)
  | [], h, id, cs, hl => by simpa [freezeAll] using hl
  | v :: r, h, id, cs, hl => by
    cases v
    case own k =>
      rw [freezeAll_own]
      refine freezeAll_box r _ id cs ?_
      rw [frz1_look]
      by_cases hk : id = k
      · subst hk; rw [if_pos rfl, hl]; rfl
      · rw [if_neg hk]; exact hl
    all_goals exact freezeAll_box r h id cs hl
theorem rsV_agg : ∀ (l : List RS) (x : RDen l) (k i : Nat) (r : RS), l[i]? = some r → r.agg = true → ∃ cs, (rsV l x k)[i]? = some (.agg cs)
  | [], _, _, i, r, h, _ => by simp at h
  | q :: rs, x, k, 0, r, h, ha => by
    simp only [List.getElem?_cons_zero, Option.some.injEq] at h
    subst h
    exact ⟨psV q.ps x.1 k, by simp [rsV, ha, oneV]⟩
  | q :: rs, x, k, i + 1, r, h, ha => by
    simp only [rsV, List.getElem?_cons_succ]
    exact rsV_agg rs x.2 _ i r (by simpa using h) ha
theorem mutsOf_agg : ∀ (l : List MK) (i : Nat) (r : RS), (mutsOf l)[i]? = some r → r.agg = true
  | [], i, r, h => by simp [mutsOf] at h
  | .d _ :: l, i, r, h => mutsOf_agg l i r (by simpa [mutsOf] using h)
  | .m ps :: l, 0, r, h => by simp [mutsOf] at h; rw [← h]
  | .m ps :: l, i + 1, r, h => mutsOf_agg l i r (by simpa [mutsOf] using h)
theorem delAll_look : ∀ (l : List Nat) (h : Heap) (k : Nat), lookN (delAll l h) k = if k ∈ l then none else lookN h k
  | [], h, k => by simp [delAll]
  | id :: r, h, k => by
    simp only [delAll]
    rw [delAll_look r, lookN_delObj]
    by_cases h1 : k = id
    · subst h1; simp
    · simp [h1]
theorem setBoxes_look : ∀ (ids : List Nat) (as : List V) (h : Heap) (k : Nat), ids.Nodup → (∀ i, i < ids.length → ∃ cs : List V, as[i]? = some (V.agg cs)) →
    (∃ (i : Nat) (cs : List V), ids[i]? = some k ∧ as[i]? = some (V.agg cs) ∧ lookN (setBoxes ids as h) k = (lookN h k).map fun _ => .box cs) ∨ (k ∉ ids ∧ lookN (setBoxes ids as h) k = lookN h k)
  | [], as, h, k, _, _ => .inr ⟨by simp, by simp [setBoxes]⟩
  | id :: ids, as, h, k, hn, ha => by
    obtain ⟨cs, h0⟩ := ha 0 (by simp)
    match as, h0 with
    | a :: as, h0 =>
      simp only [List.getElem?_cons_zero, Option.some.injEq] at h0
      subst h0
      simp only [List.nodup_cons] at hn
      simp only [setBoxes]
      rcases setBoxes_look ids as (setObj h id (.box cs)) k hn.2 (fun i hi => by obtain ⟨c, hc⟩ := ha (i + 1) (by simpa using hi); exact ⟨c, by simpa using hc⟩) with ⟨i, c, h1, h2, h3⟩ | ⟨h1, h2⟩
      · left
        refine ⟨i + 1, c, by simpa using h1, by simpa using h2, ?_⟩
        rw [h3, lookN_setObj, if_neg]
        rintro rfl
        exact hn.1 (List.mem_iff_getElem?.2 ⟨i, h1⟩)
      · by_cases hk : k = id
        · subst hk
          left
          exact ⟨0, cs, rfl, rfl, by rw [h2, lookN_setObj, if_pos rfl]⟩
        · right
          refine ⟨by simp [hk, h1], ?_⟩
          rw [h2, lookN_setObj, if_neg hk]
theorem packV_rel {vs : List V} {us : List Value} (hv : RVs C w g vs us) : RV C w g (packV vs) (if h : us.toArray.size = 1 then us.toArray[0] else .tuple us.toArray) := by
  have hl := RVs_len hv
  match vs, hl, hv with
  | [], hl, hv =>
    simp only [RVs] at hv; subst hv
    simp [packV, RV, RVs]
  | [v], hl, hv =>
    simp only [RVs] at hv
    obtain ⟨x, _, rfl, h1, rfl⟩ := hv
    simpa [packV] using h1
  | v1 :: v2 :: vs, hl, hv =>
    have : ¬ us.toArray.size = 1 := by simp at hl ⊢; omega
    rw [dif_neg this]
    simp only [packV, RV]
    exact ⟨us, rfl, hv⟩
theorem ownIds_append : ∀ (a b : List V), ownIds (a ++ b) = ownIds a ++ ownIds b
  | [], b => rfl
  | v :: a, b => by cases v <;> simp [ownIds, ownIds_append a b]
theorem ownsV_ids : ∀ (l : List Nat), ownIds (ownsV l) = l
  | [] => rfl
  | a :: l => by simp [ownsV, ownIds, ownsV_ids l]
theorem ownsV_len : ∀ (l : List Nat), (ownsV l).length = l.length
  | [] => rfl
  | a :: l => by simp [ownsV, ownsV_len l]
theorem ownsV_get : ∀ (l : List Nat) (i c : Nat), l[i]? = some c → (ownsV l)[i]? = some (.own c)
  | [], i, c, h => by simp at h
  | a :: l, 0, c, h => by simp at h; subst h; rfl
  | a :: l, i + 1, c, h => by simpa [ownsV] using ownsV_get l i c (by simpa using h)
theorem ownsV_of : ∀ (l : List Nat) (i : Nat) (v : V), (ownsV l)[i]? = some v → ∃ c, l[i]? = some c ∧ v = .own c
  | [], i, c, h => by simp [ownsV] at h
  | a :: l, 0, c, h => by simp [ownsV] at h; subst h; exact ⟨a, rfl, rfl⟩
  | a :: l, i + 1, c, h => by simpa using ownsV_of l i c (by simpa [ownsV] using h)
theorem mem_ownIds : ∀ (l : List V) (i : Nat), i ∈ ownIds l ↔ V.own i ∈ l
  | [], i => by simp [ownIds]
  | v :: l, i => by cases v <;> simp [ownIds, mem_ownIds l]
end
theorem readMArgs_len {h : Heap} : ∀ {l : List MK} {vs : List V} {xs : MDen l} {ids : List Nat} {os : List V}, readMArgs h l vs = some (xs, ids, os) → ids.length = (mutsOf l).length
  | [], [], xs, ids, os, hs => by
    simp only [readMArgs, Option.some.injEq, Prod.mk.injEq] at hs
    obtain ⟨_, rfl, rfl⟩ := hs
    rfl
  | [], v :: vs, xs, ids, os, hs => by simp [readMArgs] at hs
  | .d t :: r, [], xs, ids, os, hs => by simp [readMArgs] at hs
  | .m ps :: r, [], xs, ids, os, hs => by simp [readMArgs] at hs
  | .d t :: r, v :: vs, xs, ids, os, hs => by
    simp only [readMArgs] at hs
    split at hs
    · split at hs
      · rename_i y ids' os' hy
        simp only [Option.some.injEq, Prod.mk.injEq] at hs
        obtain ⟨rfl, rfl, rfl⟩ := hs
        exact (readMArgs_len hy : ids'.length = (mutsOf r).length)
      · simp at hs
    · simp at hs
  | .m ps :: r, v :: vs, xs, ids, os, hs => by
    have hv' : ∃ id, v = .ptr id 0 := by
      cases v with
      | ptr id col => cases col with
        | zero => exact ⟨id, rfl⟩
        | succ n => simp [readMArgs] at hs
      | _ => simp [readMArgs] at hs
    obtain ⟨id, rfl⟩ := hv'
    simp only [readMArgs] at hs
    split at hs
    · split at hs
      · split at hs
        · rename_i y ids' os' hy
          simp only [Option.some.injEq, Prod.mk.injEq] at hs
          obtain ⟨rfl, rfl, rfl⟩ := hs
          simp [mutsOf, readMArgs_len hy]
        · simp at hs
      · simp at hs
    · simp at hs
theorem readMArgs_len2 {h : Heap} : ∀ {l : List MK} {vs : List V} {xs : MDen l} {ids : List Nat} {os : List V}, readMArgs h l vs = some (xs, ids, os) → vs.length = l.length
  | [], [], xs, ids, os, hs => rfl
  | [], v :: vs, xs, ids, os, hs => by simp [readMArgs] at hs
  | .d t :: r, [], xs, ids, os, hs => by simp [readMArgs] at hs
  | .m ps :: r, [], xs, ids, os, hs => by simp [readMArgs] at hs
  | .d t :: r, v :: vs, xs, ids, os, hs => by
    simp only [readMArgs] at hs
    split at hs
    · split at hs
      · rename_i y ids' os' hy
        simp [readMArgs_len2 hy]
      · simp at hs
    · simp at hs
  | .m ps :: r, v :: vs, xs, ids, os, hs => by
    have hv' : ∃ id, v = .ptr id 0 := by
      cases v with
      | ptr id col => cases col with
        | zero => exact ⟨id, rfl⟩
        | succ n => simp [readMArgs] at hs
      | _ => simp [readMArgs] at hs
    obtain ⟨id, rfl⟩ := hv'
    simp only [readMArgs] at hs
    split at hs
    · split at hs
      · split at hs
        · rename_i y ids' os' hy
          simp [readMArgs_len2 hy]
        · simp at hs
      · simp at hs
    · simp at hs
theorem oRs_len {h : Heap} : ∀ (l : List RS) (vs : List V) (x : RDen l), readRs h l vs = some x → (oRs l vs).length = rsN l
  | [], vs, x, hs => by cases vs <;> rfl
  | r :: rs, [], x, hs => by simp [readRs] at hs
  | r :: rs, v :: vs, x, hs => by
    simp only [readRs] at hs
    split at hs
    · rename_i cs hcs
      split at hs
      · rename_i y hy
        split at hs
        · rename_i z hz
          obtain ⟨c1, _, _⟩ := cellsOf_eq hcs
          simp only [oRs, rsN, List.length_append]
          rw [c1, oPs_len r.ps cs y hy, oRs_len rs vs z hz]
        · simp at hs
      · simp at hs
    · simp at hs
theorem readArg_up {h h0 : Heap} {own : Bool} (hs : ∀ id o, lookN h id = some o → lookN h0 id = some o) {t : Ty} {v : V} {x : t.den} (hr : readArg h own (.d t) v = some x) : readArg h0 own (.d t) v = some x := by
  simp only [readArg] at hr ⊢
  split at hr
  · rename_i hsh
    split at hr
    · rename_i y hd
      rw [toDen_up hs t _ _ _ hd]
      exact hr
    · cases hr
  · cases hr
theorem ownL_up {h h0 : Heap} (hs : ∀ id o, lookN h id = some o → lookN h0 id = some o) {te : TypeId} {e : Ty} {v : V} {xs : List e.den} (hr : ownL h te e v = some xs) : ownL h0 te e v = some xs := by
  cases v <;> simp only [ownL] at hr ⊢
  all_goals try (exact hr)
  split at hr
  · rename_i te' e' ys hl
    rw [hs _ _ hl]
    exact hr
  · cases hr
theorem readPs_up {h h0 : Heap} (hs : ∀ id o, lookN h id = some o → lookN h0 id = some o) : ∀ (l : List RK) (cs : List V) (x : PDen l), readPs h l cs = some x → readPs h0 l cs = some x
  | [], [], x, hr => hr
  | [], _ :: _, x, hr => by simp [readPs] at hr
  | .d t :: r, cs, x, hr => by
    simp only [readPs] at hr ⊢
    split at hr
    · rename_i y cs' hd
      rw [toDen_up hs t _ _ _ hd]
      dsimp only
      split at hr
      · rename_i z hz
        rw [readPs_up hs r cs' z hz]; exact hr
      · cases hr
    · cases hr
  | .o te e :: r, c :: cs, x, hr => by
    simp only [readPs] at hr ⊢
    split at hr
    · rename_i y hd
      rw [ownL_up hs hd]
      dsimp only
      split at hr
      · rename_i z hz
        rw [readPs_up hs r cs z hz]; exact hr
      · cases hr
    · cases hr
  | .o te e :: r, [], x, hr => by simp [readPs] at hr
theorem readMArgs_up {h h0 : Heap} (hs : ∀ id o, lookN h id = some o → lookN h0 id = some o) : ∀ (l : List MK) (vs : List V) (x : MDen l × List Nat × List V), readMArgs h l vs = some x → readMArgs h0 l vs = some x
  | [], [], x, hr => hr
  | [], _ :: _, x, hr => by simp [readMArgs] at hr
  | .d t :: r, v :: vs, x, hr => by
    simp only [readMArgs] at hr ⊢
    split at hr
    · rename_i y hy
      rw [readArg_up hs hy]
      dsimp only
      split at hr
      · rename_i z ids os hz
        rw [readMArgs_up hs r vs _ hz]; exact hr
      · cases hr
    · cases hr
  | .d t :: r, [], x, hr => by simp [readMArgs] at hr
  | .m ps :: r, vs, x, hr => by
    cases vs with
    | nil => simp [readMArgs] at hr
    | cons v vs =>
      cases v
      case ptr id col =>
        cases col with
        | succ n => simp [readMArgs] at hr
        | zero =>
          simp only [readMArgs] at hr ⊢
          split at hr
          · rename_i cs hl
            rw [hs _ _ hl]
            dsimp only
            split at hr
            · rename_i y hy
              rw [readPs_up hs ps cs y hy]
              dsimp only
              split at hr
              · rename_i z ids os hz
                rw [readMArgs_up hs r vs _ hz]; exact hr
              · cases hr
            · cases hr
          · cases hr
      all_goals simp [readMArgs] at hr
theorem readMArgs_box {h : Heap} : ∀ (l : List MK) (vs : List V) (x : MDen l) (ids : List Nat) (os : List V), readMArgs h l vs = some (x, ids, os) → ∀ id ∈ ids, ∃ o, lookN h id = some o
  | [], [], x, ids, os, hr, id, hi => by
    simp only [readMArgs, Option.some.injEq, Prod.mk.injEq] at hr
    obtain ⟨_, rfl, _⟩ := hr
    simp at hi
  | [], _ :: _, x, _, _, hr, _, _ => by simp [readMArgs] at hr
  | .d t :: r, v :: vs, x, ids, os, hr, id, hi => by
    simp only [readMArgs] at hr
    split at hr
    · split at hr
      · rename_i z ids' os' hz
        simp only [Option.some.injEq, Prod.mk.injEq] at hr
        obtain ⟨_, rfl, _⟩ := hr
        exact readMArgs_box r vs z ids' os' hz id hi
      · cases hr
    · cases hr
  | .d t :: r, [], x, _, _, hr, _, _ => by simp [readMArgs] at hr
  | .m ps :: r, vs, x, ids, os, hr, id, hi => by
    cases vs with
    | nil => simp [readMArgs] at hr
    | cons v vs =>
      cases v
      case ptr id' col =>
        cases col with
        | succ n => simp [readMArgs] at hr
        | zero =>
          simp only [readMArgs] at hr
          split at hr
          · rename_i cs hl
            split at hr
            · split at hr
              · rename_i z ids' os' hz
                simp only [Option.some.injEq, Prod.mk.injEq] at hr
                obtain ⟨_, rfl, _⟩ := hr
                rcases List.mem_cons.1 hi with rfl | hi
                · exact ⟨_, hl⟩
                · exact readMArgs_box r vs z ids' os' hz id hi
              · cases hr
            · cases hr
          · cases hr
      all_goals simp [readMArgs] at hr
theorem freezeAll_none : ∀ (cs : List V) (h : Heap), ownIds cs = [] → freezeAll h cs = h
  | [], h, _ => rfl
  | v :: r, h, hn => by
    have hv : ∀ id, v ≠ .own id := fun id e => by subst e; simp [ownIds] at hn
    rw [freezeAll_skip h v r hv]
    refine freezeAll_none r h ?_
    cases v <;> simp only [ownIds] at hn <;> first | exact hn | (simp at hn)
theorem psH_none : ∀ (l : List RK) (x : PDen l) (k : Nat), psN l = 0 → psH l x k = []
  | [], _, _, _ => rfl
  | .d t :: r, x, k, h => by simp only [psH]; exact psH_none r x.2 k (by simpa [psN] using h)
  | .o te e :: r, x, k, h => by simp [psN] at h
theorem rsH_none : ∀ (l : List RS) (x : RDen l) (k : Nat), rsN l = 0 → rsH l x k = []
  | [], _, _, _ => rfl
  | r :: rs, x, k, h => by
    simp only [rsN] at h
    simp only [rsH]
    rw [psH_none r.ps x.1 k (by omega), rsH_none rs x.2 _ (by omega)]; rfl
theorem runT_out {s : MSpec} {args : List V} {h0 h : Heap} {fresh : Nat} {c : List Prop} {v : V} {id : Nat} {ob : Obj} (hh : ∀ k o, lookN h0 k = some o → lookN h k = some o) (hs : runT s args h0 fresh = some (c, v, id, ob)) :
    runM s args h fresh = some (c, v, setObj h id ob) ∧ ∃ o, lookN h0 id = some o := by
  unfold runT at hs
  split at hs
  · rename_i hd hn
    split at hs
    · rename_i xs id' hrd
      split at hs
      · rename_i cs hdr
        simp only [Option.some.injEq, Prod.mk.injEq] at hs
        obtain ⟨rfl, rfl, rfl, rfl⟩ := hs
        refine ⟨?_, readMArgs_box _ _ _ _ _ hrd _ (by simp)⟩
        unfold runM
        rw [freezeAll_none _ _ hd, readMArgs_up hh _ _ _ hrd]
        dsimp only
        rw [hdr, rsH_none _ _ _ hn]
        rfl
      · cases hs
    · cases hs
  · cases hs
theorem mOk {P : Program} {T : Tab} {S : Specs} {keep : List (Nat × List Nat)} (hT : TabOk P T) (hS : SpecsOk P S) (hmix : P.follows .mixedOrders = true) {f : FuncId} {fn : Func} (hf : P.funcs[f]? = some fn) {s : MSpec}
    (hpin : pinsOf keep = (List.range (mutsOf s.args).length, (mutsOf s.args).length)) (hok : (match fn.body with | some c => codeOk fn.ntmps c | none => false) = true) (hn : s.args.length ≤ fn.ntmps)
    (hs : ∀ xs, GoodM s.args xs → s.pre xs → vfunM T S keep fn (argsM s.args xs 0) (boxesM s.args xs 0 (mutsOf s.args).length) (fun vs h' => readAll (s.res ++ mutsOf s.args) (mutsOf s.args).length vs h' = some (s.fn xs))) : SpecOk P f s.spec := by
  suffices hloud : ∀ (C : Cx) (w : World) (g : Gh) (h : Heap) (fresh : Nat) (args : List V) (vals : List Value) (c : List Prop) (v : V) (h' : Heap), C.P = P → RelH C h w g → FreshIds g fresh → RVs C w g args vals →
      s.spec.l args h fresh = some (c, v, h') → (∀ p ∈ c, p) → Calls P f vals.toArray w fun e w' => ∃ x g', e = .returned x ∧ WRes C w g fresh v h' x w' g' from
    ⟨fun C w g h fresh args vals c v news hP R hfr hv hq hc => by simp [MSpec.spec] at hq, hloud, fun C w g h fresh args vals K hP R hf hu hv hs => hs.elim,
      fun C w g h h0 fresh args vals c v id ob hP R hfr hv hh hs hc => hloud C w g h fresh args vals c v _ hP R hfr hv (runT_out hh hs).1 hc, fun h0 fresh args c v id ob hs => (runT_out (fun _ _ h => h) hs).2⟩
  refine fun C w g h fresh args vals c v h' hP R0 hfr hv0 hq hc => ?_
  subst hP
  simp only [MSpec.spec, runM] at hq
  obtain ⟨F1, R, e1, _⟩ := freezeAll_sound (w := w) (dCells s.args args) h g R0
  have hv : RVs C w ⟨g.anch, F1, g.U⟩ args vals := RVs_mono e1 _ _ hv0
  revert hq
  generalize freezeAll h (dCells s.args args) = h1 at R ⊢
  intro hq
  split at hq
  · rename_i xs ids os hrd
    split at hq
    · rename_i hnd
      simp only [Option.some.injEq, Prod.mk.injEq] at hq
      obtain ⟨rfl, rfl, rfl⟩ := hq
      have hpre : s.pre xs := hc _ (by simp)
      have hnd := nodupN_nodup _ hnd
      let OS := ownsV ids ++ os
      have hnd' : (ownIds OS).Nodup := by simp only [OS]; rw [ownIds_append, ownsV_ids]; exact hnd
      let Mb : Nat → Prop := fun b => ∃ (k i : Nat), OS[k]? = some (.own i) ∧ ablk (g.anch i) = some b
      let C' : Cx := ⟨C.P, w, Mb, F1, (List.range (mutsOf s.args).length, (mutsOf s.args).length), oAnch ⟨g.anch, F1, g.U⟩ OS, w, fun c => c < w.heap.size ∧ ¬ Mb c⟩
      let g0 : Gh := ⟨oAnch ⟨g.anch, F1, g.U⟩ OS, F1, fun k => k < OS.length⟩
      obtain ⟨a1, a2, a3, a4, a5, a6, a7, a8⟩ := readMArgs_sound (C' := C') R (g0 := g0) (OS := OS) (fun k => rfl) (fun k hk => hk) (fun b hb => hb)
        (fun k i b h1 h2 h3 => ⟨.inl ⟨k, i, h1, h2⟩, h3.2⟩) s.args args xs ids os vals 0 (mutsOf s.args).length hrd hv
        (fun i c hi => by
          rw [Nat.zero_add]; simp only [OS]
          have := ownsV_get ids i c hi
          rw [List.getElem?_append_left (List.getElem?_eq_some_iff.1 this).1]; exact this)
        (fun i c hi => by
          have h0 : (mutsOf s.args).length = (ownsV ids).length := by rw [ownsV_len]; exact (readMArgs_len hrd).symm
          simp only [OS]
          rw [h0, List.getElem?_append_right (by omega), Nat.add_sub_cancel_left]; exact hi)
      -- what stands behind a name of the callee's
      have hOSobj : ∀ (k i : Nat), OS[k]? = some (.own i) → ∃ o, lookN h1 i = some o ∧ o.mut = true := fun k i hk => by
        have hm := List.mem_iff_getElem?.2 ⟨k, hk⟩
        simp only [OS] at hm
        rcases List.mem_append.1 hm with hm | hm
        · obtain ⟨m, hm⟩ := List.mem_iff_getElem?.1 hm
          obtain ⟨c, q1, q2⟩ := ownsV_of ids m _ hm
          simp only [V.own.injEq] at q2
          subst q2
          obtain ⟨cs, hcs⟩ := a6 i (List.mem_iff_getElem?.2 ⟨m, q1⟩)
          exact ⟨_, hcs, rfl⟩
        · obtain ⟨te, e, ys, q⟩ := a7 i hm
          exact ⟨_, q, rfl⟩
      have hMb : ∀ b, Mb b → b < w.heap.size ∧ MutOk C ⟨g.anch, F1, g.U⟩ b := fun b ⟨k, i, h2, h3⟩ => by
        obtain ⟨o, q1, q2⟩ := hOSobj k i h2
        exact RO_block (R.obj i o q1).2 q2 h3
      have hOSlen : OS.length = ids.length + os.length := by simp [OS, ownsV_len]
      have R' : RelH C' (boxesM s.args xs 0 (mutsOf s.args).length) w g0 := by
        refine ⟨fun _ _ => rfl, Nat.le_refl _, rfl, rfl, rfl, fun b hb => R.F b hb, fun b hb => .inl hb, fun j hj => ⟨by show j < OS.length; rw [hOSlen, a3]; exact Nat.lt_of_lt_of_le (List.mem_range.1 hj) (Nat.le_add_right _ _), rfl⟩, ⟨fun b hb => ⟨hb, rfl⟩, Nat.le_refl _⟩, fun id o ho => ?_, fun id o id' o' b h2 h3 m1 m2 b1 b2 => ?_⟩
        · obtain ⟨q1, c, q2, _⟩ := a5 id o ho
          exact ⟨(List.getElem?_eq_some_iff.1 q2).1, q1⟩
        · obtain ⟨_, c, q2, q3⟩ := a5 id o h2
          obtain ⟨_, c', s2, s3⟩ := a5 id' o' h3
          have e1 : g0.anch id = oAnch ⟨g.anch, F1, g.U⟩ OS id := rfl
          have e2 : g0.anch id' = oAnch ⟨g.anch, F1, g.U⟩ OS id' := rfl
          rw [e1] at b1
          rw [e2] at b2
          simp only [oAnch, q2] at b1
          simp only [oAnch, s2] at b2
          rcases q3 with rfl | ⟨i, p, rfl, p1, p2⟩
          · simp [ablk] at b1
          rcases s3 with rfl | ⟨i', p', rfl, p1', p2'⟩
          · simp [ablk] at b2
          have := R.sep i p i' p' b p1 p1' p2 p2' b1 b2
          subst this
          exact ownIds_inj OS hnd' id id' i q2 s2
      have hlv := RVs_len hv
      have hla := readMArgs_len2 hrd
      refine (vfunM_sound (C := C') (g := g0) hpin hT hS hmix hf hok (by rw [hlv, hla]; exact hn) (hs xs a2 hpre) R' (fun id hid => by
        have h0 : id < OS.length := hid
        show id < (mutsOf s.args).length + ((boxesM s.args xs 0 (mutsOf s.args).length).length - (List.range (mutsOf s.args).length).length)
        rw [a8, List.length_range]; omega) a1).mono fun e w' ⟨vs, hh, us0, g', hpost, he, R2, hus0⟩ => ?_
      refine ⟨if h : us0.toArray.size = 1 then us0.toArray[0] else Value.tuple us0.toArray, ?_⟩
      unfold readAll at hpost
      split at hpost
      · rename_i as has
        split at hpost
        · rename_i hchk
          simp only [Bool.and_eq_true] at hchk
          have hnd2 := nodupN_nodup _ hchk.1
          have hle : (oRs (s.res ++ mutsOf s.args) (vs ++ as)).length ≤ 8 := Nat.le_of_ble_eq_true hchk.2
          obtain ⟨avs, hav1, hav2⟩ := aggsN_vals R2 _ _ _ has
          obtain ⟨has1, has2⟩ := aggsN_get _ _ _ has
          obtain ⟨F2, R3, e3, hfz⟩ := freezeAll_sound (w := w') (dRs (s.res ++ mutsOf s.args) (vs ++ as)) hh g' R2
          have hlr := readRs_len _ _ _ hpost
          let l := s.res ++ mutsOf s.args
          let O2 := oRs l (vs ++ as)
          let FF : Nat → Prop := fun b => F1 b ∨ F2 b
          let g2 : Gh := ⟨oAnch ⟨g'.anch, F2, g'.U⟩ O2, FF, fun k => k < O2.length⟩
          let gb : Gh := ⟨g.anch, FF, g.U⟩
          let g3 : Gh := upG gb g2 w fresh
          have hF2 : ∀ b, F2 b → F1 b ∨ Mb b ∨ w.heap.size ≤ b := fun b hb => R3.Fin b hb
          -- who may be written in the callee's end may be written by the caller
          have hmut : ∀ b, MutOk C' ⟨g'.anch, F2, g'.U⟩ b → MutOk C g3 b := fun b ⟨q1, q2⟩ => by
            have hnF : ¬ F1 b := fun hF1 => by
              rcases q1 with q1 | q1
              · exact (hMb b q1).2.2 hF1
              · have := R.F b hF1; simp only [C'] at q1; omega
            refine ⟨?_, fun hF => ?_⟩
            · rcases q1 with q1 | q1
              · exact (hMb b q1).2.1
              · exact .inr (Nat.le_trans R.size q1)
            · rcases hF with (hF | hF) | hF
              · exact hnF hF
              · exact q2 hF
              · rcases hF.1 with hF | hF
                · exact hnF hF
                · exact q2 hF
          have hall : RVs C' w' ⟨g'.anch, F2, g'.U⟩ (vs ++ as) (us0 ++ avs) := RVs_mono e3 _ _ (RVs_append hus0 hav1)
          have hmut2 : ∀ b, MutOk C' ⟨g'.anch, F2, g'.U⟩ b → MutOk C g2 b := fun b hb => ⟨(hmut b hb).1, fun hF => (hmut b hb).2 (.inl hF)⟩
          obtain ⟨m1, m2⟩ := readRs_sound (C' := C) R3 (g2 := g2) (os := O2) (fun k => rfl) (fun k hk => hk) (fun b hb => .inr hb) (fun k i b _ _ h4 => hmut2 b h4) l (vs ++ as) (s.fn xs) (us0 ++ avs) 0 hpost hall (fun j c hc => by rw [Nat.zero_add]; exact hc)
          have hrs8 : rsN l ≤ 8 := by
            have h9 : (oRs (s.res ++ mutsOf s.args) (vs ++ as)).length = rsN (s.res ++ mutsOf s.args) := oRs_len _ _ _ hpost
            show rsN (s.res ++ mutsOf s.args) ≤ 8
            omega
          have m3 := rsV_up (C := C) (C' := C) (g := gb) (own := false) (fresh := fresh) (g1 := g2) (w := w) (w' := w') (fun b hb => .inl (.inl hb)) l (fun h => by cases h) (s.fn xs) 0 (us0 ++ avs) (by omega) m1
          rw [Nat.add_zero] at m3
          have hw : ∀ b, b < w.heap.size → ¬ Mb b → w'.heap[b]? = w.heap[b]? := fun b h2 h3 => R2.keep b ⟨h2, h3⟩
          have hF1 : ∀ b, F1 b → b < w.heap.size ∧ ¬ Mb b := fun b hb => ⟨R.F b hb, fun hM => (hMb b hM).2.2 hb⟩
          have hfa : ∀ id, g.U id → g3.U id ∧ g3.anch id = g.anch id := fun id hid => ⟨.inl hid, by
            simp only [g3, upG]
            rw [if_neg]
            intro h2
            exact hfr id h2.1 h2.2 hid⟩
          have ev : Evo w ⟨g.anch, F1, g.U⟩ w' g3 := ⟨fun b hb => ⟨.inl (.inl hb), hw b (hF1 b hb).1 (hF1 b hb).2⟩, hfa⟩
          -- names
          have hids : ∀ (i id : Nat), ids[i]? = some id → OS[i]? = some (.own id) := fun i id hi => by
            have := ownsV_get ids i id hi
            simp only [OS]
            rw [List.getElem?_append_left (List.getElem?_eq_some_iff.1 this).1]; exact this
          have hpinj : ∀ (i id : Nat), ids[i]? = some id → g'.anch i = g.anch id := fun i id hi => by
            have hlt : i < (mutsOf s.args).length := by rw [← a3]; exact (List.getElem?_eq_some_iff.1 hi).1
            rw [(R2.pin i (List.mem_range.2 hlt)).2]
            simp [C', oAnch, hids i id hi]
          have hbox3 : ∀ (i id : Nat), ids[i]? = some id → ∃ cs, lookN (freezeAll hh (dRs l (vs ++ as))) i = some (.box cs) := fun i id hi => by
            have hlt : i < (mutsOf s.args).length := by rw [← a3]; exact (List.getElem?_eq_some_iff.1 hi).1
            obtain ⟨cs, q1, _⟩ := has2 i hlt
            rw [Nat.zero_add] at q1
            exact ⟨cs, freezeAll_box _ _ _ _ q1⟩
          have hlen1 : vs.length = s.res.length := by
            simp only [List.length_append] at hlr
            omega
          have hlen0 : us0.length = s.res.length := by rw [RVs_len hus0]; exact hlen1
          -- the boxes' new cells
          have hset := fun k hk => setBoxes_look ids ((rsV l (s.fn xs) fresh).drop s.res.length) (delAll (ownIds os) h1) k (List.nodup_append.1 hnd).1 hk
          have hagg : ∀ i, i < ids.length → ∃ cs : List V, ((rsV l (s.fn xs) fresh).drop s.res.length)[i]? = some (V.agg cs) := fun i hi => by
            rw [List.getElem?_drop]
            have hlt : i < (mutsOf s.args).length := by rw [← a3]; exact hi
            have hr := List.getElem?_eq_getElem hlt
            exact rsV_agg l (s.fn xs) fresh (s.res.length + i) (mutsOf s.args)[i] (by simp only [l]; rw [List.getElem?_append_right (by omega), Nat.add_sub_cancel_left]; exact hr) (mutsOf_agg s.args i _ hr)
          have hidm : ∀ id, id ∈ ids → id ∉ ownIds os := fun id h2 h3 => (List.nodup_append.1 hnd).2.2 id h2 id h3 rfl
          -- what the caller's new heap holds
          have look : ∀ id o, lookN (rsH l (s.fn xs) fresh ++ setBoxes ids ((rsV l (s.fn xs) fresh).drop s.res.length) (delAll (ownIds os) h1)) id = some o →
              (∃ j, id = fresh + j ∧ lookN (rsH l (s.fn xs) 0) j = some o) ∨
              (∃ (i : Nat) (cs : List V), ids[i]? = some id ∧ ((rsV l (s.fn xs) fresh).drop s.res.length)[i]? = some (V.agg cs) ∧ o = .box cs) ∨
              (id ∉ ids ∧ id ∉ ownIds os ∧ lookN h1 id = some o) := fun id o ho => by
            rw [lookN_append] at ho
            cases hq : lookN (rsH l (s.fn xs) fresh) id with
            | some o' =>
              rw [hq] at ho
              simp only [Option.some_or, Option.some.injEq] at ho
              subst ho
              obtain ⟨j, h2, _, _, h3, _⟩ := rsH_up l (s.fn xs) 0 id o' hq
              exact .inl ⟨j, h2, h3⟩
            | none =>
              rw [hq] at ho
              simp only [Option.none_or] at ho
              right
              rcases hset id hagg with ⟨i, cs, h2, h3, h4⟩ | ⟨h2, h3⟩
              · left
                rw [h4, delAll_look, if_neg (hidm id (List.mem_iff_getElem?.2 ⟨i, h2⟩))] at ho
                refine ⟨i, cs, h2, h3, ?_⟩
                obtain ⟨cs0, hcs0⟩ := a6 id (List.mem_iff_getElem?.2 ⟨i, h2⟩)
                rw [hcs0] at ho
                simp only [Option.map_some, Option.some.injEq] at ho
                exact ho.symm
              · right
                rw [h3, delAll_look] at ho
                by_cases h4 : id ∈ ownIds os
                · rw [if_pos h4] at ho; simp at ho
                · rw [if_neg h4] at ho; exact ⟨h2, h4, ho⟩
          have hj8 : ∀ j o, lookN (rsH l (s.fn xs) 0) j = some o → j < 8 ∧ ∃ c, O2[j]? = some c ∧ (c = .nil ∨ ∃ i te e xs, c = .own i ∧ lookN (freezeAll hh (dRs l (vs ++ as))) i = some (.arr te e xs)) ∧ RO C w' g2 j o ∧ o.mut = true := fun j o ho => by
            obtain ⟨q1, q2, q3, c, q4, q5⟩ := m2 j o ho
            refine ⟨by omega, c, q4, q5, q3, ?_⟩
            obtain ⟨_, _, _, _, _, te, e, ys, h6, _⟩ := rsH_up (fresh := 0) l (s.fn xs) 0 j o (by simpa using ho)
            rw [h6]; rfl
          -- a new slice's block, in the callee's names
          have hnewblk : ∀ j o b, lookN (rsH l (s.fn xs) 0) j = some o → ablk (g3.anch (fresh + j)) = some b → ∃ i te e xs, O2[j]? = some (.own i) ∧ lookN (freezeAll hh (dRs l (vs ++ as))) i = some (.arr te e xs) ∧ ablk (g'.anch i) = some b := fun j o b ho hb => by
            obtain ⟨q1, c, q2, q3, _, _⟩ := hj8 j o ho
            have ea : g3.anch (fresh + j) = oAnch ⟨g'.anch, F2, g'.U⟩ O2 j := by
              simp only [g3]
              rw [up_anch q1]
            rw [ea] at hb
            simp only [oAnch, q2] at hb
            rcases q3 with rfl | ⟨i, te, e, ys, rfl, q4⟩
            · simp [ablk] at hb
            · exact ⟨i, te, e, ys, q2, q4, hb⟩
          have hcalleeMut : ∀ i o b, lookN (freezeAll hh (dRs l (vs ++ as))) i = some o → o.mut = true → ablk (g'.anch i) = some b → b < w'.heap.size ∧ MutOk C' ⟨g'.anch, F2, g'.U⟩ b := fun i o b h2 h3 h4 => RO_block (R3.obj i o h2).2 h3 h4
          have hboxblk : ∀ (i id b : Nat), ids[i]? = some id → ablk (g.anch id) = some b → ∀ k te e xs, lookN (freezeAll hh (dRs l (vs ++ as))) k = some (.arr te e xs) → ablk (g'.anch k) = some b → False := fun i id b h2 h3 k te e xs h4 h5 => by
            obtain ⟨cs, h6⟩ := hbox3 i id h2
            have := R3.sep i _ k _ b h6 h4 rfl rfl (by show ablk (g'.anch i) = some b; rw [hpinj i id h2]; exact h3) h5
            subst this
            rw [h6] at h4
            simp at h4
          have hkept : ∀ id o b, id ∉ ids → id ∉ ownIds os → lookN h1 id = some o → o.mut = true → ablk (g.anch id) = some b → b < w.heap.size ∧ ¬ Mb b ∧ ¬ F1 b ∧ ¬ F2 b := fun id o b h2 h3 h4 h5 h6 => by
            obtain ⟨q1, q2⟩ := RO_block (R.obj id o h4).2 h5 h6
            have q3 : ¬ Mb b := fun ⟨k, i, h7, h8⟩ => by
              obtain ⟨o', r1, r2⟩ := hOSobj k i h7
              have := R.sep id o i o' b h4 r1 h5 r2 h6 h8
              subst this
              have hm := List.mem_iff_getElem?.2 ⟨k, h7⟩
              simp only [OS] at hm
              rcases List.mem_append.1 hm with hm | hm
              · obtain ⟨m, hm⟩ := List.mem_iff_getElem?.1 hm
                obtain ⟨c, s1, s2⟩ := ownsV_of ids m _ hm
                simp only [V.own.injEq] at s2
                subst s2
                exact h2 (List.mem_iff_getElem?.2 ⟨m, s1⟩)
              · exact h3 ((mem_ownIds os id).2 hm)
            refine ⟨q1, q3, q2.2, fun hF => ?_⟩
            rcases hF2 b hF with h7 | h7 | h7
            · exact q2.2 h7
            · exact q3 h7
            · omega
          refine ⟨g3, he, ⟨⟨fun b hb => ?_, Nat.le_trans R.size R2.size, R2.os.trans R.os, R2.tape.trans R.tape, R2.output.trans R.output, fun b hb => ?_, fun b hb => ?_, ev.pin R.pin, R.lam, fun id o ho => ?_, fun id o id' o' b h2 h3 k1 k2 b1 b2 => ?_⟩, e1.trans ev, ?_, fun id hid => ?_⟩⟩
          · have hlt : b < w.heap.size := Nat.lt_of_lt_of_le hb.1 R.size
            refine (hw b hlt (fun hM => ?_)).trans (R.keep b hb)
            rcases (hMb b hM).2.1 with h2 | h2
            · exact hb.2 h2
            · have := hb.1; omega
          · have : ∀ b, FF b → b < w'.heap.size := fun b hb => hb.elim (fun h2 => Nat.lt_of_lt_of_le (R.F b h2) R2.size) (fun h2 => R3.F b h2)
            exact hb.elim (this b) (fun h2 => this b h2.1)
          · have : ∀ b, FF b → C.F0 b ∨ C.M0 b ∨ C.w0.heap.size ≤ b := fun b hb => by
              rcases hb with hb | hb
              · exact R.Fin b hb
              · rcases hF2 b hb with h2 | h2 | h2
                · exact R.Fin b h2
                · exact .inr (hMb b h2).2.1
                · exact .inr (.inr (Nat.le_trans R.size h2))
            exact hb.elim (this b) (fun h2 => this b h2.1)
          · rcases look id o ho with ⟨j, rfl, h2⟩ | ⟨i, cs, h2, h3, rfl⟩ | ⟨h2, h3, h4⟩
            · obtain ⟨q1, c, q2, q3, q4, q5⟩ := hj8 j o h2
              refine ⟨up_U q1 (List.getElem?_eq_some_iff.1 q2).1, ?_⟩
              have hsh : g3.anch (fresh + j) = g2.anch j := up_anch q1
              cases o with
              | arr te e ys =>
                simp only [RO] at q4 ⊢
                obtain ⟨cells, p1, p2, p3, p4⟩ := q4
                refine ⟨cells, by rw [hsh]; exact p1, reps_mono (fun b hb => ⟨.inl hb, rfl⟩) _ _ _ p2, p3, fun b hb => ?_⟩
                rw [hsh] at hb
                obtain ⟨s1, s2⟩ := p4 b hb
                refine ⟨s1, fun hF => s2 ?_⟩
                exact hF.elim (fun h => h) (fun h => h.1)
              | box cs => obtain ⟨_, _, _, _, _, te, e, ys, h6, _⟩ := rsH_up (fresh := 0) l (s.fn xs) 0 j _ (by simpa using h2); cases h6
              | ice e ys => simp [Obj.mut] at q5
              | map a b m => obtain ⟨_, _, _, _, _, te, e, ys, h6, _⟩ := rsH_up (fresh := 0) l (s.fn xs) 0 j _ (by simpa using h2); cases h6
              | xar te e ys => obtain ⟨_, _, _, _, _, te, e, ys, h6, _⟩ := rsH_up (fresh := 0) l (s.fn xs) 0 j _ (by simpa using h2); cases h6
              | arx te e ys => obtain ⟨_, _, _, _, _, te, e, ys, h6, _⟩ := rsH_up (fresh := 0) l (s.fn xs) 0 j _ (by simpa using h2); cases h6
              | raw te e ys => obtain ⟨_, _, _, _, _, te, e, ys, h6, _⟩ := rsH_up (fresh := 0) l (s.fn xs) 0 j _ (by simpa using h2); cases h6
            · obtain ⟨cs0, hcs0⟩ := a6 id (List.mem_iff_getElem?.2 ⟨i, h2⟩)
              obtain ⟨hUid, blk, bvs, te, p1, p2, p3, p4, p5⟩ := R.obj id _ hcs0
              have hlt : i < (mutsOf s.args).length := by rw [← a3]; exact (List.getElem?_eq_some_iff.1 h2).1
              obtain ⟨blk', bv', te', r1, r2, r3, r4⟩ := hav2 i hlt
              rw [Nat.zero_add] at r2
              have e5 := hpinj i id h2
              rw [r2] at e5
              have p1' : g.anch id = .pointer (some ⟨blk, 0, none⟩) := p1
              rw [p1'] at e5
              simp only [Value.pointer.injEq, Option.some.injEq, Addr.mk.injEq, and_true] at e5
              subst e5
              have hcell : RVs C w' g3 cs bv'.toList := by
                have hd := RVs_drop s.res.length m3
                obtain ⟨y, s1, s2⟩ := RVs_at hd h3
                rw [List.drop_left' hlen0, r1] at s1
                simp only [Option.some.injEq] at s1
                subst s1
                simp only [RV] at s2
                obtain ⟨zs, s3, s4⟩ := s2
                simp only [Value.agg.injEq] at s3
                subst s3
                exact s4
              refine ⟨.inl hUid, blk', bv'.toList, te', by rw [(hfa id hUid).2]; exact p1', by simpa using r3, hcell, r4, ?_⟩
              obtain ⟨ccs, h6⟩ := hbox3 i id h2
              exact hmut blk' (hcalleeMut i _ blk' h6 rfl (by rw [r2]; rfl)).2
            · obtain ⟨hUid, hO⟩ := R.obj id o h4
              refine ⟨.inl hUid, RO_mono hUid hO ev fun b hm hb => ?_⟩
              obtain ⟨q1, q2, q3, q4⟩ := hkept id o b h2 h3 h4 hm hb
              refine ⟨hw b q1 q2, fun hF => ?_⟩
              rcases hF with (hF | hF) | ⟨hF | hF, _⟩
              · exact q3 hF
              · exact q4 hF
              · exact q3 hF
              · exact q4 hF
          · -- no two share a block
            have oldb : ∀ (i : Nat) id, ids[i]? = some id → ∃ cs0, lookN h1 id = some (.box cs0) := fun i id hi => a6 id (List.mem_iff_getElem?.2 ⟨i, hi⟩)
            have anc : ∀ id o, lookN h1 id = some o → g3.anch id = g.anch id := fun id o ho => (hfa id (R.obj id o ho).1).2
            have nb : ∀ j o i id b, lookN (rsH l (s.fn xs) 0) j = some o → ablk (g3.anch (fresh + j)) = some b → ids[i]? = some id → ablk (g3.anch id) = some b → False := fun j o i id b q1 q2 q3 q4 => by
              obtain ⟨k, te, e, ys, s1, s2, s3⟩ := hnewblk j o b q1 q2
              obtain ⟨cs0, hcs0⟩ := oldb i id q3
              rw [anc id _ hcs0] at q4
              exact hboxblk i id b q3 q4 k te e ys s2 s3
            have nk : ∀ j o id o' b, lookN (rsH l (s.fn xs) 0) j = some o → ablk (g3.anch (fresh + j)) = some b → id ∉ ids → id ∉ ownIds os → lookN h1 id = some o' → o'.mut = true → ablk (g3.anch id) = some b → False := fun j o id o' b q1 q2 q3 q4 q5 q6 q7 => by
              obtain ⟨k, te, e, ys, s1, s2, s3⟩ := hnewblk j o b q1 q2
              rw [anc id _ q5] at q7
              obtain ⟨t1, t2, _, _⟩ := hkept id o' b q3 q4 q5 q6 q7
              rcases (hcalleeMut k _ b s2 rfl s3).2.1 with t3 | t3
              · exact t2 t3
              · have : w.heap.size ≤ b := t3
                omega
            rcases look id o h2 with ⟨j, rfl, q1⟩ | ⟨i, cs, q1, q2, rfl⟩ | ⟨q1, q2, q3⟩ <;> rcases look id' o' h3 with ⟨j', rfl, r1⟩ | ⟨i', cs', r1, r2, rfl⟩ | ⟨r1, r2, r3⟩
            · obtain ⟨k, te, e, ys, s1, s2, s3⟩ := hnewblk j o b q1 b1
              obtain ⟨k', te', e', ys', t1, t2, t3⟩ := hnewblk j' o' b r1 b2
              have := R3.sep k _ k' _ b s2 t2 rfl rfl s3 t3
              subst this
              rw [ownIds_inj O2 hnd2 j j' k s1 t1]
            · exact (nb j o i' id' b q1 b1 r1 b2).elim
            · exact (nk j o id' o' b q1 b1 r1 r2 r3 k2 b2).elim
            · exact (nb j' o' i id b r1 b2 q1 b1).elim
            · obtain ⟨c1, d1⟩ := oldb i id q1
              obtain ⟨c2, d2⟩ := oldb i' id' r1
              rw [anc id _ d1] at b1
              rw [anc id' _ d2] at b2
              exact R.sep id _ id' _ b d1 d2 rfl rfl b1 b2
            · obtain ⟨c1, d1⟩ := oldb i id q1
              rw [anc id _ d1] at b1
              rw [anc id' _ r3] at b2
              exact R.sep id _ id' _ b d1 r3 rfl k2 b1 b2
            · exact (nk j' o' id o b r1 b2 q1 q2 q3 k1 b1).elim
            · obtain ⟨c2, d2⟩ := oldb i' id' r1
              rw [anc id _ q3] at b1
              rw [anc id' _ d2] at b2
              exact R.sep id _ id' _ b q3 d2 k1 rfl b1 b2
            · rw [anc id _ q3] at b1
              rw [anc id' _ r3] at b2
              exact R.sep id _ id' _ b q3 r3 k1 k2 b1 b2
          · have ht := RVs_take s.res.length m3
            rw [List.take_left' hlen0] at ht
            exact packV_rel ht
          · rcases hid with hid | hid
            · exact .inl hid
            · exact .inr ⟨hid.1, hid.2.1⟩
        · simp at hpost
      · simp at hpost
    · simp at hq
  · simp at hq
end Go.Eng

set_option linter.unusedVariables false
set_option linter.unusedSimpArgs false
namespace Go.Eng
open Go.RowKit (Below)
structure NSpec where
  args : List AK
  ps : List RK
  pre : ADen args → Prop
  fn : ADen args → PDen ps
def allD : List RK → Bool
  | [] => true
  | .d _ :: r => allD r
  | _ => false
def readN (ps : List RK) (v : V) (h : Heap) : Option (PDen ps) :=
  match v with
  | .ptr id 0 => match lookN h id with
    | some (.box cs) => readPs (freezeAll h cs) ps cs
    | _ => none
  | _ => none
def Gh.data (F : Nat → Prop) : Gh := ⟨fun _ => .slice none 0 0, F, fun _ => False⟩
def NSound (P : Program) (f : FuncId) (s : NSpec) : Prop :=
  ∀ (w : World) (F : Nat → Prop) (xs : ADen s.args) (vals : List Value), (∀ b, F b → b < w.heap.size) → RVs (Cx.at P w F) w (Gh.at F) (argsV s.args xs) vals → s.pre xs →
    Calls P f vals.toArray w fun e w' => ∃ blk vs te F', e = .returned (.pointer (some ⟨blk, 0, none⟩)) ∧ Below w.heap.size w w' ∧ w.heap.size ≤ blk ∧ w'.heap[blk]? = some (.cells vs.toArray te (0, 0)) ∧ RVs (Cx.at P w F) w' (Gh.data F') (psV s.ps (s.fn xs) 0) vs ∧
      (∀ v ∈ vs, v.oneCell' = true) ∧ ¬ F' blk ∧ (∀ b, F b → F' b) ∧ ∀ b, F' b → F b ∨ (w.heap.size ≤ b ∧ b < w'.heap.size)

theorem oPs_allD : ∀ (l : List RK) (cs : List V), allD l = true → oPs l cs = []
  | [], cs, _ => rfl
  | .d t :: r, cs, h => by simp only [oPs]; exact oPs_allD r _ h
  | .o te e :: r, cs, h => by simp [allD] at h

theorem nsound {P : Program} {T : Tab} {S : Specs} {keep : List (Nat × List Nat)} (hpin : pinsOf keep = ([], 0)) (hT : TabOk P T) (hS : SpecsOk P S) (hmix : P.follows .mixedOrders = true) {f : FuncId} {fn : Func} (hf : P.funcs[f]? = some fn) {s : NSpec}
    (hd : allD s.ps = true) (hok : (match fn.body with | some c => codeOk fn.ntmps c | none => false) = true) (hn : s.args.length ≤ fn.ntmps)
    (hs : ∀ xs, GoodA s.args xs → s.pre xs → vfun T S keep fn (argsV s.args xs) [] (fun v h' => readN s.ps v h' = some (s.fn xs))) : NSound P f s := by
  intro w F xs vals hF hv hpre
  have hl := RVs_len hv
  rw [argsV_len] at hl
  refine (vfun_sound (C := Cx.at P w F) (g := Gh.at F) hpin hT hS hmix hf hok (by omega) (hs xs (argsV_good _ _ _ hv) hpre) (RelH.at P w F hF) (fun id h => h.elim) hv).mono fun e w' ⟨v, h', x, g', hpost, he, R, hx⟩ => ?_
  unfold readN at hpost
  split at hpost
  · rename_i id
    split at hpost
    · rename_i cs hl
      obtain ⟨F1, R1, e1, _⟩ := freezeAll_sound (w := w') cs h' g' R
      have hl1 := freezeAll_box cs h' id cs hl
      obtain ⟨hU, blk, vs, te, q1, q2, q3, q4, q5⟩ := R1.obj id _ hl1
      obtain ⟨p1, _⟩ := readPs_sound (C' := Cx.at P w F) R1 (g2 := Gh.data (fun b => F b ∨ F1 b)) (os := []) (fun k => by simp [Gh.data, oAnch]) (fun k hk => absurd hk (Nat.not_lt_zero k)) (fun b hb => .inr hb) (fun k i b hk => by simp at hk)
        s.ps cs (s.fn xs) vs 0 hpost q3 (fun j c hc => by rw [oPs_allD _ _ hd] at hc; simp at hc)
      simp only [RV] at hx
      obtain ⟨_, a, ha, rfl⟩ := hx
      have q1' : g'.anch id = .pointer (some ⟨blk, 0, none⟩) := q1
      rw [q1'] at ha
      simp only [Value.pointer.injEq, Option.some.injEq] at ha
      subst ha
      have hge : w.heap.size ≤ blk := by
        rcases q5.1 with h1 | h1
        · exact h1.elim
        · exact h1
      refine ⟨blk, vs, te, fun b => F b ∨ F1 b, by rw [he]; simp [Addr.add], ⟨R.os, R.tape, R.output, R.size, fun k hk => R.keep k ⟨hk, fun h => h⟩⟩, hge, q2, p1, q4, fun hFb => ?_, fun b hb => .inl hb, fun b hb => ?_⟩
      · rcases hFb with h1 | h1
        · have := hF blk h1; omega
        · exact q5.2 h1
      · rcases hb with h1 | h1
        · exact .inl h1
        · rcases R1.Fin b h1 with h2 | h2 | h2
          · exact .inl h2
          · exact h2.elim
          · exact .inr ⟨h2, R1.F b h1⟩
    · simp at hpost
  · simp at hpost

def runNQ (L : LSpecs) (s : NSpec) (args : List V) (h : Heap) (fresh : Nat) : R :=
  match readArgs L h false s.args args with
  | some xs => some ([s.pre xs], .ptr fresh 0, [(fresh, .box (psV s.ps (s.fn xs) 0))])
  | none => none
def runNL (L : LSpecs) (s : NSpec) (args : List V) (h : Heap) (fresh : Nat) : R :=
  match runNQ L s args (freezeAll h (argCells s.args args)) fresh with
  | some (c, v, news) => some (c, v, news ++ freezeAll h (argCells s.args args))
  | none => none
def NSpec.spec (L : LSpecs) (s : NSpec) : Spec := ⟨runNQ L s, runNL L s, noK, noT⟩
theorem ncall {L : LSpecs} {C : Cx} {w : World} {g : Gh} {h : Heap} (hL : LSpecsOk C.P L) {f : FuncId} {s : NSpec} (hp : NSound C.P f s) {fresh : Nat} (R : RelH C h w g) (hf : FreshIds g fresh) {args : List V} {vals : List Value} (hv : RVs C w g args vals) {c : List Prop} {v : V} {news : Heap}
    (hs : runNQ L s args h fresh = some (c, v, news)) (hc : ∀ p ∈ c, p) : Calls C.P f vals.toArray w fun e w' => ∃ x g', e = .returned x ∧ QRes C w g fresh v news x w' g' := by
  unfold runNQ at hs
  split at hs
  · rename_i xs hxs
    simp only [Option.some.injEq, Prod.mk.injEq] at hs
    obtain ⟨rfl, rfl, rfl⟩ := hs
    have hargs := readArgs_sound hL R s.args args xs vals hxs hv
    have hFc : ∀ b, Fcall w g false b → b < w.heap.size := fun b hb => hb.elim (R.F b) (fun h => h.2)
    refine (hp w _ xs vals hFc hargs (hc _ (by simp))).mono fun e w' ⟨blk, vs, te, F', he, hb, h1, h2, h3, h4, h5, h6, h7⟩ => ?_
    have hU : ¬ g.U fresh := hf fresh (Nat.le_refl _) (by omega)
    let g1 : Gh := ⟨upd g.anch fresh (.pointer (some ⟨blk, 0, none⟩)), F', fun k => g.U k ∨ k = fresh⟩
    refine ⟨_, g1, he, hb, fun b hb => h6 b (.inl hb), fun b hb => ?_, fun id hid => ⟨.inl hid, upd_other _ _ _ (fun e => hU (e ▸ hid))⟩, fun id hid => ?_, ?_, fun id o ho => ?_, fun id o id' o' b q1 q2 _ _ _ _ => ?_⟩
    · rcases h7 b hb with q | q
      · rcases q with q | q
        · exact .inl q
        · exact absurd q.1 (by simp)
      · exact .inr q
    · rcases hid with q | q
      · exact .inl q
      · subst q; exact .inr ⟨Nat.le_refl _, by omega⟩
    · simp only [RV]
      exact ⟨.inr rfl, _, upd_same _ _ _, by simp [Addr.add]⟩
    · simp only [lookN] at ho
      cases hq : Nat.beq fresh id
      · rw [hq] at ho; simp at ho
      · rw [hq] at ho
        obtain rfl := Nat.eq_of_beq_eq_true hq
        simp only [Option.some.injEq] at ho
        subst ho
        refine ⟨⟨Nat.le_refl _, by omega⟩, .inr rfl, ⟨blk, vs, te, upd_same _ _ _, h2, ?_, h4, .inr (Nat.le_trans R.size h1), h5⟩, fun b hb => ?_⟩
        · have hdat : ∀ (l : List RK) (x : PDen l) (k : Nat) (us : List Value), RVs (Cx.at C.P w (Fcall w g false)) w' (Gh.data F') (psV l x k) us → RVs C w' g1 (psV l x k) us := by
            intro l
            induction l with
            | nil => intro x k us h; exact h
            | cons q qs ih =>
              intro x k us h
              cases q with
              | d t =>
                simp only [psV] at h ⊢
                obtain ⟨us1, us2, rfl, a1, a2⟩ := RVs_split h
                have a3 : rep w' F' t x.1 us1 := rep_ofDen t _ _ a1
                exact RVs_append (RVs_ofDen (g := g1) t _ _ a3) (ih _ _ _ a2)
              | o te e =>
                simp only [psV, RVs, RV] at h
                obtain ⟨u, us', _, ⟨hF, _⟩, _⟩ := h
                exact hF.elim
          exact hdat _ _ _ _ h3
        · simp only [g1, upd_same, ablk, Option.some.injEq] at hb
          subst hb; exact h1
    · simp only [lookN] at q1 q2
      cases hq : Nat.beq fresh id <;> simp [hq] at q1
      cases hq' : Nat.beq fresh id' <;> simp [hq'] at q2
      exact (Nat.eq_of_beq_eq_true hq).symm.trans (Nat.eq_of_beq_eq_true hq')
  · simp at hs
theorem nOk {P : Program} {L : LSpecs} (hL : LSpecsOk P L) {f : FuncId} {s : NSpec} (hp : NSound P f s) : SpecOk P f (s.spec L) := by
  refine ⟨fun C w g h fresh args vals c v news hP R hf hv hs hc => ?_, fun C w g h fresh args vals c v h' hP R hf hv hs hc => ?_, fun C w g h fresh args vals K hP R hf hu hv hs => hs.elim, fun _ _ _ _ _ _ _ _ _ _ _ _ _ _ _ _ _ hs _ => (by cases (show (none : Option (List Prop × V × Nat × Obj)) = some _ from hs)), fun _ _ _ _ _ _ _ hs => (by cases (show (none : Option (List Prop × V × Nat × Obj)) = some _ from hs))⟩
  · subst hP
    exact ncall hL hp R hf hv hs hc
  · subst hP
    simp only [NSpec.spec, runNL] at hs
    split at hs
    · rename_i c1 v1 news hq
      simp only [Option.some.injEq, Prod.mk.injEq] at hs
      obtain ⟨rfl, rfl, rfl⟩ := hs
      obtain ⟨F1, R1, e1, _⟩ := freezeAll_sound (w := w) (argCells s.args args) h g R
      have hv1 : RVs C w ⟨g.anch, F1, g.U⟩ args vals := RVs_mono e1 _ _ hv
      refine (ncall hL hp R1 hf hv1 hq hc).mono fun e w' ⟨x, g', he, q⟩ => ⟨x, g', he, ?_⟩
      have wr := q.wres R1
      exact ⟨wr.rel, e1.trans wr.evo, wr.val, wr.U⟩
    · simp at hs
end Go.Eng

set_option linter.unusedVariables false
set_option linter.unusedSimpArgs false
namespace Go.Eng
open Go.RowKit (Below)
section
variable {C C' : Cx} {w w' : World} {g g' : Gh} {h : Heap} {T : Tab} {S : Specs} {N n : Nat} {keep : List (Nat × List Nat)}
mutual
theorem RV_cx (hP : C'.P = C.P) (h1 : C'.lw = C.lw) (h2 : C'.lK = C.lK) : ∀ (v : V) (x : Value), RV C w g v x → RV C' w g v x
  | .any, _, _ => by simp [RV]
  | .bl _, _, hv => by simp only [RV] at hv ⊢; exact hv
  | .b _, _, hv => by simp only [RV] at hv ⊢; exact hv
  | .i _ _, _, hv => by simp only [RV] at hv ⊢; exact hv
  | .s _, _, hv => by simp only [RV] at hv ⊢; exact hv
  | .sl e xs, v, hv => by simp only [RV] at hv ⊢; exact hv
  | .nil, _, hv => by simp only [RV] at hv ⊢; exact hv
  | .np, _, hv => by simp only [RV] at hv ⊢; exact hv
  | .nf, _, hv => by simp only [RV] at hv ⊢; exact hv
  | .nm, _, hv => by simp only [RV] at hv ⊢; exact hv
  | .own id, _, hv => by simp only [RV] at hv ⊢; exact hv
  | .ptr id col, _, hv => by simp only [RV] at hv ⊢; exact hv
  | .ep id e r c, _, hv => by simp only [RV] at hv ⊢; exact hv
  | .mp id, _, hv => by simp only [RV] at hv ⊢; exact hv
  | .vw id e lo n fl, _, hv => by simp only [RV] at hv ⊢; exact hv
  | .lam a b p, _, hv => by simp only [RV] at hv ⊢; rw [hP, h1, h2]; exact hv
  | .fn f cs, v, hv => by
    simp only [RV] at hv ⊢
    obtain ⟨vs, q1, q2⟩ := hv
    exact ⟨vs, q1, RVs_cx hP h1 h2 cs vs q2⟩
  | .agg cs, v, hv => by
    simp only [RV] at hv ⊢
    obtain ⟨vs, q1, q2⟩ := hv
    exact ⟨vs, q1, RVs_cx hP h1 h2 cs vs q2⟩
  | .tup cs, v, hv => by
    simp only [RV] at hv ⊢
    obtain ⟨vs, q1, q2⟩ := hv
    exact ⟨vs, q1, RVs_cx hP h1 h2 cs vs q2⟩
  | .rp cs, v, hv => by
    simp only [RV] at hv ⊢
    obtain ⟨a, vs, q1, q2, q3, q4⟩ := hv
    exact ⟨a, vs, q1, q2, q3, RVs_cx hP h1 h2 cs vs q4⟩
  | .ifc t u, v, hv => by
    simp only [RV] at hv ⊢
    obtain ⟨y, q1, q2⟩ := hv
    exact ⟨y, q1, RV_cx hP h1 h2 u y q2⟩
  | .os e f xs, v, hv => by simp only [RV] at hv ⊢; exact hv
theorem RVs_cx (hP : C'.P = C.P) (h1 : C'.lw = C.lw) (h2 : C'.lK = C.lK) : ∀ (cs : List V) (vs : List Value), RVs C w g cs vs → RVs C' w g cs vs
  | [], _, hv => by simp only [RVs] at hv ⊢; exact hv
  | c :: cs, _, hv => by
    simp only [RVs] at hv ⊢
    obtain ⟨x, xs, q1, q2, q3⟩ := hv
    exact ⟨x, xs, q1, RV_cx hP h1 h2 c x q2, RVs_cx hP h1 h2 cs xs q3⟩
end
theorem RO_cx (hP : C'.P = C.P) (h1 : C'.lw = C.lw) (h2 : C'.lK = C.lK) {id : Nat} {o : Obj} (hm : ∀ b, o.mut = true → ablk (g.anch id) = some b → MutOk C g b → MutOk C' g b) (ho : RO C w g id o) : RO C' w g id o := by
  cases o with
  | box cs =>
    obtain ⟨blk, vs, te, q1, q2, q3, q4, q5⟩ := ho
    exact ⟨blk, vs, te, q1, q2, RVs_cx hP h1 h2 _ _ q3, q4, hm blk rfl (by rw [q1]; rfl) q5⟩
  | arr te e xs =>
    obtain ⟨cells, q1, q2, q3, q4⟩ := ho
    exact ⟨cells, q1, q2, q3, fun b hb => hm b rfl hb (q4 b hb)⟩
  | ice e xs => exact ho
  | map a b l =>
    obtain ⟨blk, es, clock, q1, q2, q3, q5, q4⟩ := ho
    exact ⟨blk, es, clock, q1, q2, q3, q5, hm blk rfl (by rw [q1]; rfl) q4⟩
  | raw te e xs =>
    obtain ⟨q0, q1 | ⟨blk, m, cur, q1, q2, q3, q4, q5, q6, q7⟩⟩ := ho
    · exact ⟨q0, .inl q1⟩
    · exact ⟨q0, .inr ⟨blk, m, cur, q1, q2, q3, q4, q5, q6, hm blk rfl (by rw [q1]; rfl) q7⟩⟩
  | xar te e xs =>
    obtain ⟨⟨cells, q1, q2, q3, q4⟩, q5⟩ := ho
    exact ⟨⟨cells, q1, q2, q3, fun b hb => hm b rfl hb (q4 b hb)⟩, q5⟩
  | arx te e rows =>
    obtain ⟨cells, q1, q2, q3, q4⟩ := ho
    exact ⟨cells, q1, q2, q3, fun b hb => hm b rfl hb (q4 b hb)⟩

theorem keysH_look : ∀ (h : Heap) (id : Nat), (∃ o, lookN h id = some o) ↔ id ∈ keysH h
  | [], id => by simp [keysH, lookN]
  | (k, o) :: r, id => by
    simp only [keysH, lookN, List.mem_cons]
    cases hb : Nat.beq k id
    · have hne : ¬ id = k := fun e => by subst e; simp at hb
      simp only [hne, false_or]
      exact keysH_look r id
    · obtain rfl := Nat.eq_of_beq_eq_true hb
      simp
theorem idNames_mem : ∀ (l : List Nat) (a b : Nat), (a, b) ∈ idNames l ↔ a = b ∧ a ∈ l
  | [], a, b => by simp [idNames]
  | n :: r, a, b => by
    simp only [idNames, List.mem_cons, Prod.mk.injEq, idNames_mem r a b]
    constructor
    · rintro (⟨rfl, rfl⟩ | ⟨rfl, h⟩)
      · exact ⟨rfl, .inl rfl⟩
      · exact ⟨rfl, .inr h⟩
    · rintro ⟨rfl, rfl | h⟩
      · exact .inl ⟨rfl, rfl⟩
      · exact .inr ⟨rfl, h⟩
theorem idNames_snd : ∀ (l : List Nat), (idNames l).map (·.2) = l
  | [] => rfl
  | n :: r => by simp [idNames, idNames_snd r]
theorem okKeys_out {ks : List Nat} {fresh : Nat} : ∀ (l : List Nat), okKeys ks fresh l = true → ∀ k ∈ l, k ∈ ks ∨ (fresh ≤ k ∧ k < fresh + 7)
  | [], _, k, h => by simp at h
  | a :: r, hs, k, h => by
    simp only [okKeys] at hs
    split at hs
    · rename_i hm
      rcases List.mem_cons.1 h with rfl | h
      · exact .inl ((memN_iff _ _).1 hm)
      · exact okKeys_out r hs k h
    · split at hs
      · rename_i hb
        simp only [Bool.and_eq_true] at hb
        rcases List.mem_cons.1 h with rfl | h
        · exact .inr ⟨Nat.le_of_ble_eq_true hb.1, Nat.le_of_ble_eq_true hb.2⟩
        · exact okKeys_out r hs k h
      · cases hs
theorem RelH.names {ks : List Nat} (hnd : ks.Nodup) (R : RelH C h w g) (hp : ∀ j ∈ C.pins.1, j ∈ ks) : RelH C (renHeap (idNames ks) h (idNames ks)) w (gren g (idNames ks)) := by
  have hnd' : ((idNames ks).map (·.2)).Nodup := by rw [idNames_snd]; exact hnd
  refine ⟨R.keep, R.size, R.os, R.tape, R.output, R.F, R.Fin, fun j hj => ?_, R.lam, fun j o hj => ?_, ?_⟩
  · have hm : (j, j) ∈ idNames ks := (idNames_mem _ _ _).2 ⟨rfl, hp j hj⟩
    exact ⟨⟨j, hm⟩, by rw [(gren_mem hnd' hm).1]; exact (R.pin j hj).2⟩
  · obtain ⟨id, o', h2, h3, h4⟩ := renHeap_look (idNames ks) h (idNames ks) j o hj
    subst h4
    exact ⟨⟨id, h2⟩, renObj_rel hnd' h2 (R.obj id o' h3).2⟩
  · intro j1 o1 j2 o2 b hj1 hj2 hm1 hm2 hb1 hb2
    obtain ⟨id1, p1, q2, q3, q4⟩ := renHeap_look (idNames ks) h (idNames ks) j1 o1 hj1
    obtain ⟨id2, p2, s2, s3, s4⟩ := renHeap_look (idNames ks) h (idNames ks) j2 o2 hj2
    subst q4; subst s4
    rw [renObj_mut] at hm1 hm2
    rw [(gren_mem (g := g) hnd' q2).1] at hb1
    rw [(gren_mem (g := g) hnd' s2).1] at hb2
    obtain ⟨rfl, _⟩ := (idNames_mem _ _ _).1 q2
    obtain ⟨rfl, _⟩ := (idNames_mem _ _ _).1 s2
    exact R.sep id1 p1 id2 p2 b q3 s3 hm1 hm2 hb1 hb2
theorem gren_id {ks : List Nat} (hnd : ks.Nodup) {j : Nat} (hj : j ∈ ks) : (gren g (idNames ks)).anch j = g.anch j :=
  (gren_mem (by rw [idNames_snd]; exact hnd) ((idNames_mem _ _ _).2 ⟨rfl, hj⟩)).1
theorem gren_U {ks : List Nat} {j : Nat} : (gren g (idNames ks)).U j ↔ j ∈ ks :=
  ⟨fun ⟨id, h⟩ => by obtain ⟨rfl, h1⟩ := (idNames_mem _ _ _).1 h; exact h1, fun h => ⟨j, (idNames_mem _ _ _).2 ⟨rfl, h⟩⟩⟩

theorem inl_k {P : Program} (hT : TabOk P T) (hS : SpecsOk P S) (hmix : P.follows .mixedOrders = true) {f : FuncId} {fn : Func} (hf : P.funcs[f]? = some fn)
    (hok : (match fn.body with | some c => codeOk fn.ntmps c | none => false) = true) {C : Cx} {w : World} {g : Gh} {h : Heap} {fresh : Nat} {args : List V} {vals : List Value} {K : V → Heap → Prop} (hP : C.P = P) (R : RelH C h w g) (hfr : FreshIds g fresh) (hub : ∀ id, g.U id → id < fresh) (hv : RVs C w g args vals)
    (hs : inlK T S keep fn args h fresh K) : Calls P f vals.toArray w fun e w' => ∃ x g' v h', e = .returned x ∧ K v h' ∧ WRes C w g fresh v h' x w' g' ∧ ∀ id, g'.U id → g.U id ∨ (fresh ≤ id ∧ id < fresh + 7) := by
  subst hP
  simp only [inlK] at hs
  split at hs
  rotate_left
  · exact hs.elim
  rename_i hlen
  have hlen := Nat.le_of_ble_eq_true hlen
  cases hb : fn.body with
  | none => simp [hb] at hs
  | some c =>
    simp only [hb] at hs hok
    rw [forceNs_eq] at hs
    split at hs
    · exact hs.elim
    rename_i hks
    simp only [Bool.and_eq_true] at hks
    rw [forceVs_eq, forceH_eq] at hs
    have hnd := nodupN_iff _ hks.2
    have hlt := allLt_iff _ _ hks.1
    have hkey := keysH_look h
    revert hs
    generalize hksd : keysH h = ks at hnd hlt hkey ⊢
    intro hs
    let M' : Nat → Prop := fun b => ∃ id o, lookN h id = some o ∧ o.mut = true ∧ ablk (g.anch id) = some b
    let C' : Cx := ⟨C.P, w, M', g.F, (ks, fresh), g.anch, C.lw, C.lK⟩
    have hM : ∀ b, M' b → b < w.heap.size ∧ MutOk C g b := fun b ⟨id, o, q1, q2, q3⟩ => RO_block (R.obj id o q1).2 q2 q3
    have hKK : ∀ b, C.K b → C'.K b := fun b hb => ⟨Nat.lt_of_lt_of_le hb.1 R.size, fun hm => by
      rcases (hM b hm).2.1 with h1 | h1
      · exact hb.2 h1
      · have := hb.1; omega⟩
    have R1 : RelH C' h w g := by
      refine ⟨fun _ _ => rfl, Nat.le_refl _, rfl, rfl, rfl, R.F, fun b hb => .inl hb, fun j hj => ?_, ⟨fun b hb => ⟨hKK b (R.lam.1 b hb).1, (R.keep b (R.lam.1 b hb).1).trans (R.lam.1 b hb).2⟩, Nat.le_trans R.lam.2 R.size⟩, fun id o ho => ?_, R.sep⟩
      · obtain ⟨o, ho⟩ := (hkey j).2 hj
        exact ⟨(R.obj j o ho).1, rfl⟩
      · obtain ⟨q1, q2⟩ := R.obj id o ho
        exact ⟨q1, RO_cx (C := C) (C' := C') rfl rfl rfl (fun b hm hb hmo => ⟨.inl ⟨id, o, ho, hm, hb⟩, hmo.2⟩) q2⟩
    have R2 := R1.names hnd (fun j hj => hj)
    have hnd' : ((idNames ks).map (·.2)).Nodup := by rw [idNames_snd]; exact hnd
    have hv2 : RVs C' w (gren g (idNames ks)) (renVs (idNames ks) args) vals := renVs_rel hnd' _ _ (RVs_cx (C := C) (C' := C') rfl rfl rfl _ _ hv)
    have hvl := RVs_len hv
    refine calls_of_wp hf hb ?_
    have hsz : (vals.toArray ++ Array.replicate (fn.ntmps - vals.toArray.size) undef).size = fn.ntmps := by simp; omega
    have r : RelT C' fn.ntmps ⟨paramEnv 0 (renVs (idNames ks) args), renHeap (idNames ks) h (idNames ks)⟩ { tmps := vals.toArray ++ Array.replicate (fn.ntmps - vals.toArray.size) undef, defers := [] } w (gren g (idNames ks)) := by
      refine ⟨R2, fun t v ht => ?_, fun id hid => ?_, hsz, rfl⟩
      · obtain ⟨_, h2⟩ := paramEnv_look _ 0 t v ht
        rw [Nat.sub_zero] at h2
        obtain ⟨x, h3, h4⟩ := RVs_at hv2 h2
        refine ⟨x, ?_, h4⟩
        have hlt := (List.getElem?_eq_some_iff.1 h3).1
        simp only
        rw [Array.getElem?_append_left (by simpa using hlt)]
        simpa using h3
      · have := hlt id (gren_U.1 hid)
        show id < fresh + _
        omega
    refine vc_sound (C := C') (keep := (3000000, ks) :: (3000001, [fresh]) :: keep) rfl hT hS hmix c _ _ _ w _ hok hs r _ fun e st a w' g' hk r => ?_
    -- behind the body
    have fin : ∀ (v : V) (x : Value), exitK ks fresh st.heap v K → RV C' w' g' v x → ∃ g2 v2 h2, K v2 h2 ∧ WRes C w g fresh v2 h2 x w' g2 ∧ ∀ id, g2.U id → g.U id ∨ (fresh ≤ id ∧ id < fresh + 7) := by
      intro v x hx hvx
      unfold exitK at hx
      rw [forceNs_eq] at hx
      split at hx
      rotate_left
      · exact hx.elim
      rename_i hk2
      simp only [Bool.and_eq_true] at hk2
      rw [forceV_eq, forceH_eq] at hx
      have hnd2 := nodupN_iff _ hk2.2
      have hok2 := okKeys_out _ hk2.1
      have hkey2 := keysH_look st.heap
      revert hx
      generalize keysH st.heap = ks2 at hnd2 hok2 hkey2 ⊢
      intro hx
      have hpin2 : ∀ j ∈ ks, g'.U j ∧ g'.anch j = g.anch j := fun j hj => r.H.pin j hj
      have hndn : ((idNames ks2).map (·.2)).Nodup := by rw [idNames_snd]; exact hnd2
      classical
      let FF : Nat → Prop := fun b => g.F b ∨ g'.F b
      let g2 : Gh := ⟨fun id => if id ∈ ks2 then g'.anch id else g.anch id, FF, fun id => g.U id ∨ id ∈ ks2⟩
      have hnew : ∀ id, id ∈ ks2 → g.U id → id ∈ ks := fun id h1 h2 => by
        rcases hok2 id h1 with h | h
        · exact h
        · have := hub id h2; omega
      have evo0 : Evo w g w' g2 := by
        refine ⟨fun b hb => ⟨.inl hb, ?_⟩, fun id hid => ⟨.inl hid, ?_⟩⟩
        · refine r.H.keep b ⟨R.F b hb, fun hm => (hM b hm).2.2 hb⟩
        · show (if id ∈ ks2 then g'.anch id else g.anch id) = g.anch id
          split
          · rename_i hin; exact (hpin2 id (hnew id hin hid)).2
          · rfl
      let gg := gren g' (idNames ks2)
      have evo1 : Evo w' gg w' g2 := by
        refine ⟨fun b hb => ⟨.inr hb, rfl⟩, fun id hid => ?_⟩
        have hin := gren_U.1 hid
        refine ⟨.inr hin, ?_⟩
        show (if id ∈ ks2 then g'.anch id else g.anch id) = _
        rw [if_pos hin]
        exact (gren_id hnd2 hin).symm
      have hFF : ∀ b, MutOk C' gg b → MutOk C g2 b := fun b ⟨q1, q2⟩ => by
        have hnF : ¬ g.F b := fun hF => by
          rcases q1 with q1 | q1
          · exact (hM b q1).2.2 hF
          · have := R.F b hF; simp only [C'] at q1; omega
        refine ⟨?_, fun hF => hF.elim hnF q2⟩
        rcases q1 with q1 | q1
        · exact (hM b q1).2.1
        · exact .inr (Nat.le_trans R.size q1)
      -- the heap as it is left
      have hobj : ∀ j o, lookN (renHeap (idNames ks2) st.heap (idNames ks2)) j = some o → g2.U j ∧ RO C w' g2 j o ∧ ∃ o', lookN st.heap j = some o' ∧ o'.mut = o.mut ∧ g2.anch j = g'.anch j := fun j o hj => by
        obtain ⟨id, o', h2, h3, h4⟩ := renHeap_look _ _ _ j o hj
        subst h4
        obtain ⟨rfl, hin⟩ := (idNames_mem _ _ _).1 h2
        have hO := renObj_rel (g := g') hndn h2 (r.H.obj id o' h3).2
        have hU : gg.U id := gren_U.2 hin
        have ha : g2.anch id = g'.anch id := by
          show (if id ∈ ks2 then g'.anch id else g.anch id) = _
          rw [if_pos hin]
        have ha' : gg.anch id = g'.anch id := gren_id hnd2 hin
        refine ⟨.inr hin, ?_, o', h3, (renObj_mut _ _).symm, ha⟩
        have hO2 := RO_mono (C := C') hU hO evo1 (fun b hm hb => ⟨rfl, fun hF => by
          have := RO_block hO hm hb
          exact (hFF b this.2).2 hF⟩)
        refine RO_cx (C := C') (C' := C) rfl rfl rfl (fun b hm hb _ => hFF b ?_) hO2
        have hb' : ablk (gg.anch id) = some b := by rw [ha']; rw [ha] at hb; exact hb
        exact (RO_block hO hm hb').2
      have hU7 : ∀ id, g2.U id → g.U id ∨ (fresh ≤ id ∧ id < fresh + 7) := fun id hid => by
        rcases hid with hid | hid
        · exact .inl hid
        · rcases hok2 id hid with h1 | h1
          · obtain ⟨o, ho⟩ := (hkey id).2 h1
            exact .inl (R.obj id o ho).1
          · exact .inr h1
      refine ⟨g2, _, _, hx, ⟨⟨fun b hb => ?_, Nat.le_trans R.size r.H.size, r.H.os.trans R.os, r.H.tape.trans R.tape, r.H.output.trans R.output, fun b hb => ?_, fun b hb => ?_, fun j hj => ?_, R.lam, fun j o hj => ⟨(hobj j o hj).1, (hobj j o hj).2.1⟩, fun j1 o1 j2 o2 b h1 h2 m1 m2 b1 b2 => ?_⟩, evo0, ?_, fun id hid => ?_⟩, hU7⟩
      · exact (r.H.keep b (hKK b hb)).trans (R.keep b hb)
      · exact hb.elim (fun h => Nat.lt_of_lt_of_le (R.F b h) r.H.size) (r.H.F b)
      · rcases hb with hb | hb
        · exact R.Fin b hb
        · rcases r.H.Fin b hb with h1 | h1 | h1
          · exact R.Fin b h1
          · exact .inr (hM b h1).2.1
          · exact .inr (.inr (Nat.le_trans R.size h1))
      · have h1 := R.pin j hj
        exact ⟨(evo0.A j h1.1).1, (evo0.A j h1.1).2.trans h1.2⟩
      · obtain ⟨_, _, p1, q1, q2, q3⟩ := hobj j1 o1 h1
        obtain ⟨_, _, p2, s1, s2, s3⟩ := hobj j2 o2 h2
        rw [q3] at b1
        rw [s3] at b2
        exact r.H.sep j1 p1 j2 p2 b q1 s1 (q2.trans m1) (s2.trans m2) b1 b2
      · exact RV_cx (C := C') (C' := C) rfl rfl rfl _ _ (RV_mono evo1 _ _ (renV_rel hndn v x hvx))
      · rcases hU7 id hid with h1 | h1
        · exact .inl h1
        · exact .inr ⟨h1.1, by omega⟩
    have run : ∀ vs, resVs T st fn.results.toList = some vs → ∃ xs : List Value, (results fn a.tmps).run C.P w' = .ok (if h : xs.toArray.size = 1 then xs.toArray[0] else .tuple xs.toArray) w' ∧ RVs C' w' g' vs xs := fun vs hvs => by
      obtain ⟨xs, h1, h2⟩ := resVs_sound (C := C') hT r _ _ hvs
      refine ⟨xs, ?_, h2⟩
      rw [results_eq, Array.mapM_eq_mapM_toList]
      simp only [Sem.run_bind, Sem.run_map, Result.andThen_ok, Sem.run_pure]
      have h1' : Sem.run C.P (List.mapM (resSem a.tmps) fn.results.toList) w' = .ok xs w' := h1
      simp only [h1', Result.andThen_ok]
    have all : (match resVs T st fn.results.toList with
        | none => False
        | some [v] => exitK ks fresh st.heap v K
        | some vs => exitK ks fresh st.heap (.tup vs) K) → a.defers = [] ∧ ∃ v, (results fn a.tmps).run C.P w' = .ok v w' ∧ ∃ x g' v' h', Ending.returned v = .returned x ∧ K v' h' ∧ WRes C w g fresh v' h' x w' g' ∧ ∀ id, g'.U id → g.U id ∨ (fresh ≤ id ∧ id < fresh + 7) := by
      intro hk
      refine ⟨r.df, ?_⟩
      cases hr : resVs T st fn.results.toList with
      | none => rw [hr] at hk; exact hk.elim
      | some vs =>
        rw [hr] at hk
        obtain ⟨xs, h1, h2⟩ := run vs hr
        match vs, hk, h2 with
        | [], hk, h2 =>
          simp only [RVs] at h2
          subst h2
          obtain ⟨g2, v2, h3, h4, h5⟩ := fin (.tup []) (.tuple #[]) hk (by simp [RV, RVs])
          exact ⟨_, h1, _, g2, v2, h3, rfl, h4, h5⟩
        | [v], hk, h2 =>
          simp only [RVs] at h2
          obtain ⟨x, _, rfl, h3, rfl⟩ := h2
          obtain ⟨g2, v2, h5, h6, h7⟩ := fin v x hk h3
          exact ⟨_, h1, _, g2, v2, h5, rfl, h6, by simpa using h7⟩
        | v1 :: v2 :: vs, hk, h2 =>
          have hl := RVs_len h2
          have hne : ¬ xs.toArray.size = 1 := by simp at hl ⊢; omega
          rw [dif_neg hne] at h1
          obtain ⟨g2, v3, h5, h6, h7⟩ := fin (.tup (v1 :: v2 :: vs)) (.tuple xs.toArray) hk (by simp only [RV]; exact ⟨xs, rfl, h2⟩)
          exact ⟨_, h1, _, g2, v3, h5, rfl, h6, h7⟩
    cases e with
    | normal => exact all hk
    | ret => exact all hk
    | exit id => exact hk.elim
    | goto l => exact hk.elim
theorem inl_ok {P : Program} (hT : TabOk P T) (hS : SpecsOk P S) (hmix : P.follows .mixedOrders = true) {f : FuncId} {fn : Func} (hf : P.funcs[f]? = some fn)
    (hok : (match fn.body with | some c => codeOk fn.ntmps c | none => false) = true) : SpecOk P f (inl T S keep fn) := by
  refine ⟨fun C w g h fresh args vals c v news hP R hf hv hs hc => by simp [inl] at hs, fun C w g h fresh args vals c v h' hP R hf hv hs hc => by simp [inl] at hs, fun C w g h fresh args vals K hP R hfr hub hv hs => ?_, fun _ _ _ _ _ _ _ _ _ _ _ _ _ _ _ _ _ hs _ => (by cases (show (none : Option (List Prop × V × Nat × Obj)) = some _ from hs)), fun _ _ _ _ _ _ _ hs => (by cases (show (none : Option (List Prop × V × Nat × Obj)) = some _ from hs))⟩
  exact (inl_k hT hS hmix hf hok hP R hfr hub hv hs).mono fun e w' ⟨x, g', v, h', h1, h2, h3, _⟩ => ⟨x, g', v, h', h1, h2, h3⟩
end
end Go.Eng

set_option linter.unusedVariables false
set_option linter.unusedSimpArgs false
namespace Go.Eng
open Go.RowKit (Below)
def argsO : (l : List RK) → PDen l → Nat → List V
  | [], _, _ => []
  | .d t :: r, x, k => vOfDen t x.1 :: argsO r x.2 k
  | .o _ _ :: r, x, k => .own k :: argsO r x.2 (k + 1)
def heapO : (l : List RK) → PDen l → Nat → Heap
  | [], _, _ => []
  | .d _ :: r, x, k => heapO r x.2 k
  | .o te e :: r, x, k => (k, .arr te e x.1) :: heapO r x.2 (k + 1)
structure OSpec where
  te : TypeId
  e : Ty
  args : List RK
  pre : List e.den → PDen args → Prop
  fn : List e.den → PDen args → List e.den
def readOs (h : Heap) : (l : List RK) → List V → Option (PDen l × List V)
  | [], [] => some ((), [])
  | .d t :: r, v :: vs => match readArg h false (.d t) v with
    | some x => match readOs h r vs with
      | some (y, os) => some ((x, y), os)
      | none => none
    | none => none
  | .o te e :: r, v :: vs => match ownL h te e v with
    | some x => match readOs h r vs with
      | some (y, os) => some ((x, y), v :: os)
      | none => none
    | none => none
  | _, _ => none
def cellsRs : List RK → List V → List V
  | .d _ :: r, v :: vs => v.cells ++ cellsRs r vs
  | .o _ _ :: r, _ :: vs => cellsRs r vs
  | _, _ => []
def runO (s : OSpec) (args : List V) (h : Heap) (fresh : Nat) : R :=
  match args with
  | a :: rest => match ownL (freezeAll h (cellsRs s.args rest)) s.te s.e a, readOs (freezeAll h (cellsRs s.args rest)) s.args rest with
    | some xs, some (ys, os) => match nodupN (ownIds (a :: os)) with
      | true => some ([s.pre xs ys], .own fresh, (fresh, .arr s.te s.e (s.fn xs ys)) :: delAll (ownIds (a :: os)) (freezeAll h (cellsRs s.args rest)))
      | false => none
    | _, _ => none
  | [] => none
def OSpec.spec (s : OSpec) : Spec := ⟨fun _ _ _ => none, runO s, noK, noT⟩
def readO (te : TypeId) (e : Ty) (v : V) (h : Heap) : Option (List (Option e.den)) :=
  match v with
  | .nil => some []
  | .own id => match lookN h id with
    | some (.arr te' e' xs) => match Nat.beq te te', castL e' e xs with
      | true, some xs => some (xs.map some)
      | _, _ => none
    | _ => none
  | .vw id e0 0 n true => match lookN h id with
    | some (.raw te' e' xs) => match Nat.beq te te', castO e' e xs, decEq e0 e with
      | true, some xs, isTrue _ => some (xs.take n)
      | _, _, _ => none
    | _ => none
  | _ => none

section
variable {C C' : Cx} {w w' : World} {g g' : Gh} {h : Heap} {T : Tab} {S : Specs} {N n : Nat} {keep : List (Nat × List Nat)}
theorem ownL_out {h : Heap} {te : TypeId} {e : Ty} {v : V} {xs : List e.den} (hs : ownL h te e v = some xs) : (v = .nil ∧ xs = []) ∨ ∃ id, v = .own id ∧ lookN h id = some (.arr te e xs) := by
  unfold ownL at hs
  split at hs
  · simp only [Option.some.injEq] at hs
    exact .inl ⟨rfl, hs.symm⟩
  · rename_i id
    split at hs
    · rename_i te' e' ys ho
      split at hs
      · rename_i hb
        obtain rfl := Nat.eq_of_beq_eq_true hb
        obtain ⟨rfl, hx⟩ := castL_eq hs
        simp at hx
        subst hx
        exact .inr ⟨id, rfl, ho⟩
      · simp at hs
    · simp at hs
  · simp at hs
def GoodR : (l : List RK) → PDen l → Prop
  | [], _ => True
  | .d t :: r, x => Good t x.1 ∧ GoodR r x.2
  | .o _ e :: r, x => Good (.slice e) x.1 ∧ GoodR r x.2
theorem arr_good {id : Nat} {te : TypeId} {e : Ty} {xs : List e.den} (ho : RO C w g id (.arr te e xs)) : Good (.slice e) xs := by
  obtain ⟨A, cap, cells, q⟩ := view_of_arr ho
  exact ⟨Nat.le_trans q.le q.max, fun x hx => by
    have : ∀ (xs : List e.den) (cs : List Value), reps w g.F e xs cs → ∀ x ∈ xs, Good e x := by
      intro xs
      induction xs with
      | nil => intro cs _ x h; simp at h
      | cons y r ih =>
        intro cs ⟨c, r', _, h1, h2⟩ x h
        rcases List.mem_cons.1 h with rfl | h
        · exact rep_good e _ c h1
        · exact ih r' h2 x h
    exact this xs cells q.rows x hx⟩
theorem readOs_sound (R : RelH C h w g) {g0 : Gh} {OS : List V} (hA : ∀ k, g0.anch k = oAnch g OS k) (hU : ∀ k, k < OS.length → g0.U k) (hF : ∀ b, g.F b → g0.F b)
    (hM : ∀ (k i b : Nat), OS[k]? = some (.own i) → ablk (g.anch i) = some b → MutOk C g b → MutOk C' g0 b) : ∀ (l : List RK) (vs : List V) (xs : PDen l) (os : List V) (us : List Value) (k : Nat), readOs h l vs = some (xs, os) → RVs C w g vs us →
      (∀ j c, os[j]? = some c → OS[k + j]? = some c) → RVs C' w g0 (argsO l xs k) us ∧ GoodR l xs ∧
      (∀ id o, lookN (heapO l xs k) id = some o → k ≤ id ∧ RO C' w g0 id o ∧ ∃ c, OS[id]? = some c ∧ (c = .nil ∨ ∃ i te e ys, c = .own i ∧ lookN h i = some (.arr te e ys))) ∧
      (∀ c ∈ os, c = .nil ∨ ∃ i te e ys, c = .own i ∧ lookN h i = some (.arr te e ys)) ∧ (heapO l xs k).length = os.length ∧ vs.length = l.length
  | [], [], xs, os, us, k, hs, hv, ho => by
    simp only [readOs, Option.some.injEq, Prod.mk.injEq] at hs
    obtain ⟨_, rfl⟩ := hs
    exact ⟨by simpa [argsO, RVs] using hv, trivial, fun id o h => by simp [heapO, lookN] at h, fun c h => by simp at h, rfl, rfl⟩
  | [], v :: vs, xs, os, us, k, hs, hv, ho => by simp [readOs] at hs
  | .d t :: r, [], xs, os, us, k, hs, hv, ho => by simp [readOs] at hs
  | .o te e :: r, [], xs, os, us, k, hs, hv, ho => by simp [readOs] at hs
  | .d t :: r, v :: vs, xs, os, us, k, hs, hv, ho => by
    simp only [readOs] at hs
    split at hs
    · rename_i x hx
      split at hs
      · rename_i y os' hy
        simp only [Option.some.injEq, Prod.mk.injEq] at hs
        obtain ⟨rfl, rfl⟩ := hs
        simp only [RVs] at hv
        obtain ⟨u, us', rfl, h1, h2⟩ := hv
        obtain ⟨i1, i2, i3, i4, i5, i6⟩ := readOs_sound R hA hU hF hM r vs y os' us' k hy h2 ho
        simp only [readArg] at hx
        split at hx
        · rename_i hsh
          split at hx
          · rename_i z hd
            simp only [Option.some.injEq] at hx
            subst hx
            obtain ⟨k1, k2⟩ := RV_shape hsh h1
            have hrep := toDen_all R hd (RV_cells h1 k1)
            have hrep0 : rep w g0.F t z u.cells.toList := rep_mono (fun b hb => ⟨hF b hb, rfl⟩) t z _ hrep
            have hrv : RV C' w g0 (vOfDen t z) u := RV_vOfDen t z u hrep0 k2
            exact ⟨by simp only [argsO, RVs]; exact ⟨u, us', rfl, hrv, i1⟩, ⟨vOfDen_good t z u hrv, i2⟩, fun id o h => i3 id o (by simpa [heapO] using h), i4, by simpa [heapO] using i5, by simp [i6]⟩
          · simp at hx
        · simp at hx
      · simp at hs
    · simp at hs
  | .o te e :: r, v :: vs, xs, os, us, k, hs, hv, ho => by
    simp only [readOs] at hs
    split at hs
    · rename_i x hx
      split at hs
      · rename_i y os' hy
        simp only [Option.some.injEq, Prod.mk.injEq] at hs
        obtain ⟨rfl, rfl⟩ := hs
        simp only [RVs] at hv
        obtain ⟨u, us', rfl, h1, h2⟩ := hv
        have hk : OS[k]? = some v := by simpa using ho 0 v (by simp)
        have hkl : k < OS.length := (List.getElem?_eq_some_iff.1 hk).1
        obtain ⟨i1, i2, i3, i4, i5, i6⟩ := readOs_sound R hA hU hF hM r vs y os' us' (k + 1) hy h2 (fun j c hc => by
          rw [show k + 1 + j = k + (j + 1) by omega]; exact ho (j + 1) c (by simpa using hc))
        have key : RV C' w g0 (.own k) u ∧ RO C' w g0 k (.arr te e x) ∧ Good (.slice e) x ∧ (v = .nil ∨ ∃ i te e ys, v = .own i ∧ lookN h i = some (.arr te e ys)) := by
          rcases ownL_out hx with ⟨rfl, rfl⟩ | ⟨id, rfl, hl⟩
          · have ha : g0.anch k = .slice none 0 0 := by rw [hA]; simp [oAnch, hk]
            simp only [RV] at h1
            refine ⟨by simp only [RV]; exact ⟨hU k hkl, by rw [ha, h1], none, 0, 0, h1⟩, ?_, ⟨by simp, fun y hy => by simp at hy⟩, .inl rfl⟩
            exact ⟨[], ⟨by simp, .inl ⟨ha, rfl⟩⟩, rfl, cells_pos e, fun b hb => by rw [ha] at hb; simp [ablk] at hb⟩
          · have ha : g0.anch k = g.anch id := by rw [hA]; simp [oAnch, hk]
            simp only [RV] at h1
            have hO := (R.obj id _ hl).2
            have hg := arr_good hO
            obtain ⟨cells, q1, q2, q3, q4⟩ := hO
            refine ⟨by simp only [RV]; exact ⟨hU k hkl, by rw [ha]; exact h1.2.1, h1.2.2⟩, ?_, hg, .inr ⟨id, _, _, _, rfl, hl⟩⟩
            exact ⟨cells, by rw [ha]; exact q1, reps_mono (fun b hb => ⟨hF b hb, rfl⟩) _ _ _ q2, q3, fun b hb => by
              rw [ha] at hb
              exact hM k id b hk hb (q4 b hb)⟩
        refine ⟨by simp only [argsO, RVs]; exact ⟨u, us', rfl, key.1, i1⟩, ⟨key.2.2.1, i2⟩, fun id o hid => ?_, fun c hc => ?_, by simpa [heapO] using i5, by simp [i6]⟩
        · simp only [heapO, lookN] at hid
          cases hb : Nat.beq k id
          · rw [hb] at hid
            obtain ⟨q1, q2, q3⟩ := i3 id o hid
            exact ⟨by omega, q2, q3⟩
          · rw [hb] at hid
            obtain rfl := Nat.eq_of_beq_eq_true hb
            simp only [Option.some.injEq] at hid
            subst hid
            exact ⟨Nat.le_refl _, key.2.1, v, hk, key.2.2.2⟩
        · rcases List.mem_cons.1 hc with rfl | hc
          · exact key.2.2.2
          · exact i4 c hc
      · simp at hs
    · simp at hs
theorem map_some_getD {α : Type} (l : List α) (d : α) : (l.map some).map (fun o => o.getD d) = l := by simp [Function.comp_def]
theorem RO_raw {id : Nat} {te : TypeId} {e : Ty} {xs : List e.den} (ho : RO C w g id (.arr te e xs)) : ∃ k, RO C w g id (.raw te e (xs.map some ++ List.replicate k none)) ∧ xs.length + k ≤ maxLen ∧ ∃ A n c, g.anch id = .slice A n c ∧ (A = none → c = 0) ∧ c = xs.length + k ∧ n = xs.length := by
  obtain ⟨cells, h1, h2, h3, h4⟩ := ho
  rcases h1.2 with ⟨hv, hn⟩ | ⟨blk, cap, cur, hv, _, hg, hnc, hm, hcs, htk⟩
  · have : xs = [] := List.eq_nil_of_length_eq_zero hn
    subst this
    exact ⟨0, ⟨h3, .inl ⟨hv, by simp⟩⟩, by simp, none, 0, 0, hv, by simp, by simp, by simp⟩
  · have hl : (xs.map some ++ List.replicate (cap - xs.length) none : List (Option e.den)).length = cap := by simp; omega
    refine ⟨cap - xs.length, ⟨h3, .inr ⟨blk, xs.length, cur, by rw [hl]; exact hv, hg, by rw [hl]; exact hnc, by rw [hl]; exact hm, by rw [hl]; exact hcs, ?_, h4 blk (by rw [hv]; rfl)⟩⟩, by omega, some ⟨blk, 0, none⟩, xs.length, cap, hv, by simp, by omega, rfl⟩
    have hcl := reps_len e xs cells h2
    have := rawRep_append (rawRep_some h2) (by simpa using hcl) (rawRep_none (w := w) (F := g.F) (cap - xs.length) (cur.toList.drop (xs.length * e.cells)))
    rwa [← htk, List.take_append_drop] at this
theorem oOk {P : Program} (hpin : pinsOf keep = ([], 0)) (hT : TabOk P T) (hS : SpecsOk P S) (hmix : P.follows .mixedOrders = true) {f : FuncId} {fn : Func} (hf : P.funcs[f]? = some fn) {s : OSpec}
    (hok : (match fn.body with | some c => codeOk fn.ntmps c | none => false) = true) (hn : s.args.length + 1 ≤ fn.ntmps) (hce : 0 < s.e.cells)
    (hs : ∀ (xs : List s.e.den) (ys : PDen s.args) (k : Nat), (∀ x ∈ xs, Good s.e x) → GoodR s.args ys → xs.length + k ≤ maxLen → s.pre xs ys →
      vfun T S keep fn (.vw 0 s.e 0 xs.length true :: argsO s.args ys 1) ((0, .raw s.te s.e (xs.map some ++ List.replicate k none)) :: heapO s.args ys 1) (fun v h' => readO s.te s.e v h' = some ((s.fn xs ys).map some))) : SpecOk P f s.spec := by
  refine ⟨fun C w g h fresh args vals c v news hP R hf hv hs hc => by simp [OSpec.spec] at hs, fun C w g h fresh args vals c v h' hP R hfr hv hq hc => ?_, fun C w g h fresh args vals K hP R hf hu hv hs => hs.elim, fun _ _ _ _ _ _ _ _ _ _ _ _ _ _ _ _ _ hs _ => (by cases (show (none : Option (List Prop × V × Nat × Obj)) = some _ from hs)), fun _ _ _ _ _ _ _ hs => (by cases (show (none : Option (List Prop × V × Nat × Obj)) = some _ from hs))⟩
  subst hP
  simp only [OSpec.spec, runO] at hq
  split at hq
  rotate_left
  · simp at hq
  rename_i a rest
  obtain ⟨F1, R1, e1, _⟩ := freezeAll_sound (w := w) (cellsRs s.args rest) h g R
  have hv1 : RVs C w ⟨g.anch, F1, g.U⟩ (a :: rest) vals := RVs_mono e1 _ _ hv
  revert hq
  generalize freezeAll h (cellsRs s.args rest) = h1 at R1 ⊢
  intro hq
  split at hq
  rotate_left
  · simp at hq
  rename_i xs ys os hxs hys
  split at hq
  rotate_left
  · simp at hq
  rename_i hnd
  have hnd := nodupN_nodup _ hnd
  simp only [Option.some.injEq, Prod.mk.injEq] at hq
  obtain ⟨rfl, rfl, rfl⟩ := hq
  have hpre : s.pre xs ys := hc _ (by simp)
  simp only [RVs] at hv1
  obtain ⟨av, us, rfl, ha, hus⟩ := hv1
  let OS := a :: os
  let g1 : Gh := ⟨g.anch, F1, g.U⟩
  let M' : Nat → Prop := fun b => ∃ (k i : Nat), OS[k]? = some (.own i) ∧ ablk (g.anch i) = some b
  let C' : Cx := ⟨C.P, w, M', F1, ([], 0), fun _ => undef, C.lw, C.lK⟩
  let g0 : Gh := ⟨oAnch g1 OS, F1, fun k => k < OS.length⟩
  obtain ⟨i1, i2, i3, i4, i5, i6⟩ := readOs_sound (C' := C') R1 (g0 := g0) (OS := OS) (fun k => rfl) (fun k hk => hk) (fun b hb => hb) (fun k i b h1 h2 h3 => ⟨.inl ⟨k, i, h1, h2⟩, h3.2⟩) s.args rest ys os us 1 hys hus (fun j c hc => by
    show (a :: os)[1 + j]? = some c
    rw [Nat.add_comm]; simpa using hc)
  have hul := RVs_len hus
  -- what stands behind a name
  have hOSall : ∀ c ∈ OS, c = .nil ∨ ∃ i te e zs, c = .own i ∧ lookN h1 i = some (.arr te e zs) := fun c hc => by
    rcases List.mem_cons.1 hc with rfl | hc
    · rcases ownL_out hxs with ⟨h, _⟩ | ⟨id, h, h'⟩
      · exact .inl h
      · exact .inr ⟨id, _, _, _, h, h'⟩
    · exact i4 c hc
  have hOSobj : ∀ (k i : Nat), OS[k]? = some (.own i) → ∃ o, lookN h1 i = some o ∧ o.mut = true := fun k i hk => by
    rcases hOSall _ (List.mem_iff_getElem?.2 ⟨k, hk⟩) with h | ⟨i', te, e, zs, h, h'⟩
    · cases h
    · cases h; exact ⟨_, h', rfl⟩
  have hMb : ∀ b, M' b → b < w.heap.size ∧ MutOk C g1 b := fun b ⟨k, i, h2, h3⟩ => by
    obtain ⟨o, q1, q2⟩ := hOSobj k i h2
    exact RO_block (R1.obj i o q1).2 q2 h3
  have hKK : ∀ b, C.K b → C'.K b := fun b hb => ⟨Nat.lt_of_lt_of_le hb.1 R.size, fun hm => by
    rcases (hMb b hm).2.1 with h1 | h1
    · exact hb.2 h1
    · have := hb.1; omega⟩
  -- the slice that is handed over first
  obtain ⟨k, hmax, hraw, A, n, c0, hav, hA, hc0, hn0, hgood⟩ : ∃ k, xs.length + k ≤ maxLen ∧ RO C' w g0 0 (.raw s.te s.e (xs.map some ++ List.replicate k none)) ∧ ∃ A n c, av = .slice A n c ∧ (A = none → c = 0) ∧ c = xs.length + k ∧ n = xs.length ∧ (∀ x ∈ xs, Good s.e x) := by
    have h0a : g0.anch 0 = oAnch g1 OS 0 := rfl
    rcases ownL_out hxs with ⟨hnil, hx0⟩ | ⟨id, hid, hl⟩
    · subst hx0
      rw [hnil] at ha
      simp only [RV] at ha
      refine ⟨0, by simp, ⟨hce, .inl ⟨?_, by simp⟩⟩, none, 0, 0, ha, fun _ => rfl, rfl, rfl, fun x hx => by simp at hx⟩
      rw [h0a]
      show (match (a :: os)[0]? with | some (.own id) => g1.anch id | _ => .slice none 0 0) = _
      simp [hnil]
    · have hO := (R1.obj id _ hl).2
      obtain ⟨k, hraw, hmax, A, n, c0, e2, e3, e4, e5⟩ := RO_raw hO
      rw [hid] at ha
      simp only [RV] at ha
      have ha0 : g0.anch 0 = g.anch id := by
        rw [h0a]
        show (match (a :: os)[0]? with | some (.own id) => g1.anch id | _ => .slice none 0 0) = _
        simp [hid, g1]
      refine ⟨k, hmax, ?_, A, n, c0, ha.2.1.trans e2, e3, e4, e5, (arr_good hO).2⟩
      obtain ⟨p0, ⟨r1, r2⟩ | ⟨blk, m, cur, r1, r2, r3, r4, r5, r6, r7⟩⟩ := hraw
      · exact ⟨p0, .inl ⟨ha0.trans r1, r2⟩⟩
      · refine ⟨p0, .inr ⟨blk, m, cur, ha0.trans r1, r2, r3, r4, r5, r6, .inl ⟨0, id, by show (a :: os)[0]? = _; simp [hid], ?_⟩, r7.2⟩⟩
        have r1' : g.anch id = .slice (some ⟨blk, 0, none⟩) m _ := r1
        rw [r1']; rfl
  have R2 : RelH C' ((0, .raw s.te s.e (xs.map some ++ List.replicate k none)) :: heapO s.args ys 1) w g0 := by
    have look0 : ∀ id o, lookN ((0, Obj.raw s.te s.e (xs.map some ++ List.replicate k none)) :: heapO s.args ys 1) id = some o → (id = 0 ∧ o = .raw s.te s.e (xs.map some ++ List.replicate k none)) ∨ (1 ≤ id ∧ lookN (heapO s.args ys 1) id = some o) := fun id o ho => by
      simp only [lookN] at ho
      split at ho
      · rename_i hb
        simp only [Option.some.injEq] at ho
        exact .inl ⟨(Nat.eq_of_beq_eq_true hb).symm, ho.symm⟩
      · exact .inr ⟨(i3 id o ho).1, ho⟩
    have back : ∀ id o, lookN ((0, Obj.raw s.te s.e (xs.map some ++ List.replicate k none)) :: heapO s.args ys 1) id = some o → ∀ b, ablk (g0.anch id) = some b → ∃ i, OS[id]? = some (.own i) ∧ ablk (g.anch i) = some b := fun id o ho b hb => by
      have hh : ∃ c, OS[id]? = some c := by
        rcases look0 id o ho with ⟨rfl, _⟩ | ⟨h1, h2⟩
        · exact ⟨a, rfl⟩
        · obtain ⟨_, _, c, hc, _⟩ := i3 id o h2
          exact ⟨c, hc⟩
      obtain ⟨c, hc⟩ := hh
      have hb' : ablk (oAnch g1 OS id) = some b := hb
      unfold oAnch at hb'
      rw [hc] at hb'
      rcases hOSall c (List.mem_iff_getElem?.2 ⟨id, hc⟩) with rfl | ⟨i, te, e, zs, rfl, h'⟩
      · simp [ablk] at hb'
      · exact ⟨i, hc, hb'⟩
    refine ⟨fun _ _ => rfl, Nat.le_refl _, rfl, rfl, rfl, R1.F, fun b hb => .inl hb, fun j hj => absurd hj List.not_mem_nil, ⟨fun b hb => ⟨hKK b (R.lam.1 b hb).1, (R.keep b (R.lam.1 b hb).1).trans (R.lam.1 b hb).2⟩, Nat.le_trans R.lam.2 R.size⟩, fun id o ho => ?_, fun id o id' o' b h1 h2 m1 m2 b1 b2 => ?_⟩
    · rcases look0 id o ho with ⟨rfl, rfl⟩ | ⟨h1, h2⟩
      · exact ⟨by show 0 < (a :: os).length; simp, hraw⟩
      · obtain ⟨_, q2, c, hc, _⟩ := i3 id o h2
        exact ⟨(List.getElem?_eq_some_iff.1 hc).1, q2⟩
    · obtain ⟨i, q1, q2⟩ := back id o h1 b b1
      obtain ⟨i', s1, s2⟩ := back id' o' h2 b b2
      obtain ⟨p, p1, p2⟩ := hOSobj id i q1
      obtain ⟨p', p1', p2'⟩ := hOSobj id' i' s1
      have := R1.sep i p i' p' b p1 p1' p2 p2' q2 s2
      subst this
      exact ownIds_inj OS hnd id id' i q1 s1
  have hvs : RVs C' w g0 (.vw 0 s.e 0 xs.length true :: argsO s.args ys 1) (av :: us) := by
    simp only [RVs]
    refine ⟨av, us, rfl, ?_, i1⟩
    have h0a : g0.anch 0 = av := by
      show (match (a :: os)[0]? with | some (.own id) => g1.anch id | _ => .slice none 0 0) = _
      rcases ownL_out hxs with ⟨hnil, _⟩ | ⟨id, hid, _⟩
      · rw [hnil] at ha
        simp only [RV] at ha
        simp [hnil, ha]
      · rw [hid] at ha
        simp only [RV] at ha
        simp [hid, ha.2.1, g1]
    simp only [RV]
    refine ⟨by show 0 < (a :: os).length; simp, A, n, c0, A, c0, h0a.trans hav, hA, by omega, by rw [hav, hn0], by omega, by omega, fun _ => by omega, .inr (by cases A <;> simp [Addr.add])⟩
  refine (vfun_sound (C := C') (g := g0) hpin hT hS hmix hf hok (by simp; omega) (hs xs ys k hgood i2 hmax hpre) R2 (fun id hid => by
    have h1 : id < (a :: os).length := hid
    show id < 0 + ((heapO s.args ys 1).length + 1 - 0)
    simp at h1
    omega) hvs).mono fun e w' ⟨v, h', x, g', hpost, he, R3, hx⟩ => ?_
  refine ⟨x, ?_⟩
  let FF : Nat → Prop := fun b => F1 b ∨ g'.F b
  let g2 : Gh := ⟨upd g.anch fresh x, FF, fun id => g.U id ∨ id = fresh⟩
  have hU := hfr fresh (Nat.le_refl _) (by omega)
  have hMF : ∀ b, M' b → ¬ F1 b := fun b hb => (hMb b hb).2.2
  have hFb : ∀ b, FF b → b < w'.heap.size := fun b hb => hb.elim (fun h => Nat.lt_of_lt_of_le (R1.F b h) R3.size) (R3.F b)
  have hF1 : ∀ b, g.F b → F1 b := fun b hb => (e1.F b hb).1
  have evo : Evo w g w' g2 := by
    refine ⟨fun b hb => ⟨.inl (hF1 b hb), R3.keep b ⟨R.F b hb, fun hm => hMF b hm (hF1 b hb)⟩⟩, fun id hid => ⟨.inl hid, upd_other _ _ _ (fun e => hU (e ▸ hid))⟩⟩
  have evo1 : Evo w g1 w' g2 := by
    refine ⟨fun b hb => ⟨.inl hb, R3.keep b ⟨R1.F b hb, fun hm => hMF b hm hb⟩⟩, fun id hid => ⟨.inl hid, upd_other _ _ _ (fun e => hU (e ▸ hid))⟩⟩
  have hmok : ∀ b, MutOk C' g' b → MutOk C g2 b ∧ (M' b ∨ w.heap.size ≤ b) := fun b ⟨q1, q2⟩ => by
    have hnF : ¬ F1 b := fun hF => by
      rcases q1 with q1 | q1
      · exact hMF b q1 hF
      · have := R1.F b hF; simp only [C'] at q1; omega
    refine ⟨⟨?_, fun hF => hF.elim hnF q2⟩, q1⟩
    rcases q1 with q1 | q1
    · exact (hMb b q1).2.1
    · exact .inr (Nat.le_trans R.size q1)
  have hnewO : RO C w' g2 fresh (.arr s.te s.e (s.fn xs ys)) ∧ (∃ A n c, x = .slice A n c) ∧ ∀ b, ablk x = some b → M' b ∨ w.heap.size ≤ b := by
    have hanch : g2.anch fresh = x := upd_same _ _ _
    have hlenM : ((s.fn xs ys).map some).length = (s.fn xs ys).length := by simp
    unfold readO at hpost
    split at hpost
    · -- nil
      simp only [Option.some.injEq] at hpost
      have h0 : s.fn xs ys = [] := by
        cases hq : s.fn xs ys with
        | nil => rfl
        | cons y r => rw [hq] at hpost; simp at hpost
      simp only [RV] at hx
      subst hx
      refine ⟨⟨[], ⟨by simp [h0], .inl ⟨hanch, by simp [h0]⟩⟩, by rw [h0]; rfl, hce, fun b hb => by rw [hanch] at hb; simp [ablk] at hb⟩, ⟨_, _, _, rfl⟩, fun b hb => by simp [ablk] at hb⟩
    · rename_i id
      split at hpost
      · rename_i te' e' zs ho
        split at hpost
        · rename_i zs' hbt hcast
          obtain rfl := Nat.eq_of_beq_eq_true hbt
          obtain ⟨rfl, hzs⟩ := castL_eq hcast
          simp at hzs
          subst hzs
          simp only [Option.some.injEq] at hpost
          have h0 : s.fn xs ys = zs := by
            have := congrArg (List.map (fun o => o.getD s.e.dflt)) hpost
            rw [map_some_getD, map_some_getD] at this
            exact this.symm
          simp only [RV] at hx
          obtain ⟨_, rfl, hsl⟩ := hx
          obtain ⟨cells, q1, q2, q3, q4⟩ := (R3.obj id _ ho).2
          rw [h0]
          refine ⟨⟨cells, by rw [hanch]; exact q1, reps_mono (fun b hb => ⟨.inr hb, rfl⟩) _ _ _ q2, q3, fun b hb => (hmok b (q4 b (by rw [hanch] at hb; exact hb))).1⟩, hsl, fun b hb => (hmok b (q4 b hb)).2⟩
        · simp at hpost
      · simp at hpost
    · rename_i id e0 n
      split at hpost
      · rename_i te' e' zs ho
        split at hpost
        · rename_i zs' heq hbt hcast _
          obtain rfl := Nat.eq_of_beq_eq_true hbt
          subst heq
          obtain ⟨rfl, hzs⟩ := castO_eq hcast
          simp at hzs
          subst hzs
          simp only [Option.some.injEq] at hpost
          simp only [RV] at hx
          obtain ⟨_, A2, m2, c2, A3, c3, f1, f2, f3, rfl, f4, f5, f6, f7⟩ := hx
          have f6 := f6 trivial
          rw [Nat.zero_add] at f6
          subst f6
          have hA3 : A3 = A2 := by
            rcases f7 with f7 | f7
            · omega
            · rw [f7]; cases A2 <;> simp [Addr.add]
          subst hA3
          have hO := (R3.obj id _ ho).2
          obtain ⟨rfl, _⟩ := raw_cap hO f1
          have hlen : n = (s.fn xs ys).length := by
            have := congrArg List.length hpost
            simp at this
            omega
          obtain ⟨p0, ⟨p1, p2⟩ | ⟨blk, m, cur, p1, p2, p3, p4, p5, p6, p7⟩⟩ := hO
          · rw [f1] at p1
            simp at p1
            subst p2
            obtain ⟨rfl, rfl, _⟩ := p1
            have hn0 : n = 0 := by simpa using f5
            have h0 : s.fn xs ys = [] := List.eq_nil_of_length_eq_zero (by omega)
            subst hn0
            refine ⟨⟨[], ⟨by simp [h0], .inl ⟨by rw [hanch]; simp, by simp [h0]⟩⟩, by rw [h0]; rfl, hce, fun b hb => by rw [hanch] at hb; simp [ablk] at hb⟩, ⟨_, _, _, rfl⟩, fun b hb => by simp [ablk] at hb⟩
          · rw [f1] at p1
            simp at p1
            obtain ⟨rfl, rfl⟩ := p1
            have hall : (zs.take n).all Option.isSome = true := by
              rw [hpost]; simp
            have hnx : n * s.e.cells ≤ zs.length * s.e.cells := mul_len f5
            have hr := rawRep_all (rawRep_take p6 n) (by rw [List.length_take, List.length_take, Array.length_toList, p5, Nat.min_eq_left hnx, Nat.min_eq_left f5]) hall
            rw [hpost, map_some_getD] at hr
            have hmk := hmok blk p7
            refine ⟨⟨cur.toList.take (n * s.e.cells), ⟨by rw [List.length_take, Array.length_toList, p5, Nat.min_eq_left hnx, hlen], .inr ⟨blk, zs.length, cur, by rw [hanch, hlen], Nat.zero_le _, p2, by omega, p4, p5, by rw [hlen]⟩⟩, reps_mono (fun b hb => ⟨.inr hb, rfl⟩) _ _ _ hr, hce, fun b hb => ?_⟩, ⟨_, _, _, rfl⟩, fun b hb => ?_⟩
            · rw [hanch] at hb; simp [ablk] at hb; subst hb; exact hmk.1
            · simp [ablk] at hb; subst hb; exact hmk.2
        · simp at hpost
      · simp at hpost
    · simp at hpost
  have hold2 : ∀ id o, lookN (delAll (ownIds (a :: os)) h1) id = some o → lookN h1 id = some o ∧ id ∉ ownIds OS := fun id o ho => by
    rw [delAll_look] at ho
    split at ho
    · simp at ho
    · rename_i hni
      exact ⟨ho, hni⟩
  have holdO : ∀ id o, lookN (delAll (ownIds (a :: os)) h1) id = some o → g.U id ∧ RO C w' g2 id o ∧ ∀ b, o.mut = true → ablk (g.anch id) = some b → b < w.heap.size ∧ ¬ M' b := fun id o ho => by
    obtain ⟨ho, hni⟩ := hold2 id o ho
    obtain ⟨q1, q2⟩ := R1.obj id o ho
    have hb0 : ∀ b, o.mut = true → ablk (g.anch id) = some b → b < w.heap.size ∧ ¬ M' b := fun b hm hb => ⟨(RO_block q2 hm hb).1, fun ⟨k, i, h5, h6⟩ => by
      obtain ⟨p, p1, p2⟩ := hOSobj k i h5
      have := R1.sep id o i p b ho p1 hm p2 hb h6
      subst this
      exact hni ((mem_ownIds _ _).2 (List.mem_iff_getElem?.2 ⟨k, h5⟩))⟩
    refine ⟨q1, RO_mono q1 q2 evo1 (fun b hm hb => ?_), hb0⟩
    obtain ⟨k1, k2⟩ := hb0 b hm hb
    refine ⟨R3.keep b ⟨k1, k2⟩, fun hF => ?_⟩
    rcases hF with hF | hF
    · exact (RO_block q2 hm hb).2.2 hF
    · rcases R3.Fin b hF with h3 | h3 | h3
      · exact (RO_block q2 hm hb).2.2 h3
      · exact k2 h3
      · simp only [C'] at h3; omega
  have look : ∀ k o, lookN ((fresh, Obj.arr s.te s.e (s.fn xs ys)) :: delAll (ownIds (a :: os)) h1) k = some o → (k = fresh ∧ o = .arr s.te s.e (s.fn xs ys)) ∨ (k ≠ fresh ∧ lookN (delAll (ownIds (a :: os)) h1) k = some o) := fun k o hk => by
    simp only [lookN] at hk
    cases hb : Nat.beq fresh k
    · rw [hb] at hk
      exact .inr ⟨fun e => by subst e; simp at hb, hk⟩
    · rw [hb] at hk
      simp only [Option.some.injEq] at hk
      exact .inl ⟨(Nat.eq_of_beq_eq_true hb).symm, hk.symm⟩
  refine ⟨g2, he, ⟨⟨fun b hb => (R3.keep b (hKK b hb)).trans (R.keep b hb), Nat.le_trans R.size R3.size, R3.os.trans R.os, R3.tape.trans R.tape, R3.output.trans R.output, hFb, fun b hb => ?_, evo.pin R.pin, R.lam, fun k o hk => ?_, fun k1 o1 k2 o2 b hk1 hk2 hm1 hm2 hb1 hb2 => ?_⟩, evo, ?_, fun id hid => ?_⟩⟩
  · rcases hb with hb | hb
    · exact R1.Fin b hb
    · rcases R3.Fin b hb with h3 | h3 | h3
      · exact R1.Fin b h3
      · exact .inr (hMb b h3).2.1
      · exact .inr (.inr (Nat.le_trans R.size h3))
  · rcases look k o hk with ⟨rfl, rfl⟩ | ⟨h3, h4⟩
    · exact ⟨.inr rfl, hnewO.1⟩
    · obtain ⟨q1, q2, _⟩ := holdO k o h4
      exact ⟨.inl q1, q2⟩
  · have anO : ∀ (k : Nat) (o : Obj), k ≠ fresh → g2.anch k = g.anch k := fun k o hk => upd_other _ _ _ hk
    have anN : g2.anch fresh = x := upd_same _ _ _
    rcases look k1 o1 hk1 with ⟨rfl, rfl⟩ | ⟨a1, a2⟩ <;> rcases look k2 o2 hk2 with ⟨rfl, rfl⟩ | ⟨b1, b2⟩
    · rfl
    · exfalso
      rw [anO k2 o2 b1] at hb2
      rw [anN] at hb1
      obtain ⟨_, _, q⟩ := holdO k2 o2 b2
      obtain ⟨q3, q4⟩ := q b hm2 hb2
      rcases hnewO.2.2 b hb1 with h5 | h5
      · exact q4 h5
      · omega
    · exfalso
      rw [anO k1 o1 a1] at hb1
      rw [anN] at hb2
      obtain ⟨_, _, q⟩ := holdO k1 o1 a2
      obtain ⟨q3, q4⟩ := q b hm1 hb1
      rcases hnewO.2.2 b hb2 with h5 | h5
      · exact q4 h5
      · omega
    · rw [anO k1 o1 a1] at hb1
      rw [anO k2 o2 b1] at hb2
      exact R1.sep k1 o1 k2 o2 b (hold2 _ _ a2).1 (hold2 _ _ b2).1 hm1 hm2 hb1 hb2
  · simp only [RV]
    exact ⟨.inr rfl, (upd_same _ _ _).symm, hnewO.2.1⟩
  · rcases hid with hid | rfl
    · exact .inl hid
    · exact .inr ⟨Nat.le_refl _, by omega⟩
end
section
variable {α : Type} {xs : List α} {k lo n : Nat}
theorem raw_take (h : n ≤ xs.length) : (xs.map some ++ List.replicate k none).take n = (xs.take n).map some := by
  rw [List.take_append_of_le_length (by simpa using h), List.map_take]
theorem raw_cut (h : lo + n ≤ xs.length) : ((xs.map some ++ List.replicate k none).drop lo).take n = ((xs.drop lo).take n).map some := by
  rw [List.drop_append_of_le_length (by simp; omega), List.take_append_of_le_length (by simp; omega), List.map_take, List.map_drop]
theorem toNat_add' (a b : Nat) : ((a : Int) + (b : Int)).toNat = a + b := by omega
theorem toNat_addsub (a b c : Nat) : ((a : Int) + (b : Int) - (c : Int)).toNat = a + b - c := by omega
theorem toNat_subadd (a b c : Nat) : ((a : Int) - ((b : Int) + (c : Int))).toNat = a - (b + c) := by omega
theorem raw_all {ys : List α} : ((ys.map some).all Option.isSome) = true := by simp
theorem decEq_self' (e : Ty) : decEq e e = isTrue rfl := by
  cases decEq e e with
  | isTrue h => rfl
  | isFalse h => exact absurd rfl h
theorem readO_vw {te : TypeId} {e : Ty} {id n : Nat} {ys : List (Option e.den)} {h : Heap} : readO te e (.vw id e 0 n true) ((id, .raw te e ys) :: h) = some (ys.take n) := by
  simp [readO, lookN, castO, decEq_self']
theorem raw_get {i : Nat} (h : i < xs.length) : (xs.map some ++ List.replicate k none).getD i none = xs[i]? := by
  rw [List.getD_eq_getElem?_getD, List.getElem?_append_left (by simpa using h)]
  simp [List.getElem?_eq_getElem h]
end
section
variable {α : Type} {P Q V xs vs : List α} {k c n m i : Nat} {z : α}
theorem tk3 {β : Type} {P V R : List β} (h : n = P.length + V.length) : (P ++ V ++ R).take n = P ++ V := by subst h; rw [← List.length_append, List.take_left']; rfl
theorem tk2 {β : Type} {P R : List β} (h : n = P.length) : (P ++ R).take n = P := by subst h; simp
theorem ins_new (hi : i ≤ xs.length) (hk : xs.length + k < xs.length + vs.length) (hc : xs.length + vs.length ≤ c) :
  List.take (i + (xs.length + vs.length - i))  (List.take (i + vs.length)
                    (List.take i
                          (List.take i (List.map some xs ++ List.replicate k none) ++
                              List.replicate (xs.length + vs.length - i) (some z) ++
                            List.replicate (c - (i + (xs.length + vs.length - i))) none) ++
                        List.map some (List.take (i + (xs.length + vs.length - i) - i) vs) ++
                      List.drop (i + min (i + (xs.length + vs.length - i) - i) vs.length)
                        (List.take i (List.map some xs ++ List.replicate k none) ++
                            List.replicate (xs.length + vs.length - i) (some z) ++
                          List.replicate (c - (i + (xs.length + vs.length - i))) none)) ++
                  List.map some
                    (List.take (i + (xs.length + vs.length - i) - (i + vs.length))
                      (List.map (fun r => r.getD z)
                        (List.take (min (xs.length - i) (i + (xs.length + vs.length - i) - (i + vs.length)))
                          (List.drop i (List.map some xs ++ List.replicate k none))))) ++
                List.drop
                  (i + vs.length +
                    min (i + (xs.length + vs.length - i) - (i + vs.length))
                      (min (min (xs.length - i) (i + (xs.length + vs.length - i) - (i + vs.length)))
                        (xs.length + k - i)))
                  (List.take i
                        (List.take i (List.map some xs ++ List.replicate k none) ++
                            List.replicate (xs.length + vs.length - i) (some z) ++
                          List.replicate (c - (i + (xs.length + vs.length - i))) none) ++
                      List.map some (List.take (i + (xs.length + vs.length - i) - i) vs) ++
                    List.drop (i + min (i + (xs.length + vs.length - i) - i) vs.length)
                      (List.take i (List.map some xs ++ List.replicate k none) ++
                          List.replicate (xs.length + vs.length - i) (some z) ++
                        List.replicate (c - (i + (xs.length + vs.length - i))) none))) = (xs.take i ++ (vs ++ xs.drop i)).map some := by
  rw [raw_cut (by omega), map_some_getD, show i + (xs.length + vs.length - i) = xs.length + vs.length by omega]
  rw [show min (xs.length - i) (xs.length + vs.length - (i + vs.length)) = xs.length - i by omega, show xs.length + vs.length - (i + vs.length) = xs.length - i by omega, raw_take (by omega)]
  rw [show (xs.drop i).take (xs.length - i) = xs.drop i from List.take_of_length_le (by simp), show (xs.drop i).take (xs.length - i) = xs.drop i from List.take_of_length_le (by simp)]
  rw [show vs.take (xs.length + vs.length - i) = vs from List.take_of_length_le (by omega)]
  rw [tk3 (by simp; omega), tk3 (by simp; omega), List.append_assoc ((List.take _ _).map _), tk2 (by simp; omega)]
  simp

theorem ins_in (hi : i ≤ xs.length) (hk : xs.length + vs.length ≤ xs.length + k) :
  List.take (xs.length + vs.length) 
              (List.take i
                    (List.take (i + vs.length) (List.map some xs ++ List.replicate k none) ++
                        List.map some
                          (List.take (xs.length + vs.length - (i + vs.length))
                            (List.map (fun r => r.getD z)
                              (List.take (min (xs.length + vs.length - i) (xs.length + vs.length - (i + vs.length)))
                                (List.drop i (List.map some xs ++ List.replicate k none))))) ++
                      List.drop
                        (i + vs.length +
                          min (xs.length + vs.length - (i + vs.length))
                            (min (min (xs.length + vs.length - i) (xs.length + vs.length - (i + vs.length)))
                              (xs.length + k - i)))
                        (List.map some xs ++ List.replicate k none)) ++
                  List.map some (List.take (xs.length + vs.length - i) vs) ++
                List.drop (i + min (xs.length + vs.length - i) vs.length)
                  (List.take (i + vs.length) (List.map some xs ++ List.replicate k none) ++
                      List.map some
                        (List.take (xs.length + vs.length - (i + vs.length))
                          (List.map (fun r => r.getD z)
                            (List.take (min (xs.length + vs.length - i) (xs.length + vs.length - (i + vs.length)))
                              (List.drop i (List.map some xs ++ List.replicate k none))))) ++
                    List.drop
                      (i + vs.length +
                        min (xs.length + vs.length - (i + vs.length))
                          (min (min (xs.length + vs.length - i) (xs.length + vs.length - (i + vs.length)))
                            (xs.length + k - i)))
                      (List.map some xs ++ List.replicate k none))) = (xs.take i ++ (vs ++ xs.drop i)).map some := by
  rw [show min (xs.length + vs.length - i) (xs.length + vs.length - (i + vs.length)) = xs.length - i by omega, raw_cut (by omega), map_some_getD]
  rw [show xs.length + vs.length - (i + vs.length) = xs.length - i by omega]
  rw [show (xs.drop i).take (xs.length - i) = xs.drop i from List.take_of_length_le (by simp), show (xs.drop i).take (xs.length - i) = xs.drop i from List.take_of_length_le (by simp), List.take_of_length_le (l := vs) (by omega)]
  rw [show List.take i (List.take (i + vs.length) (xs.map some ++ List.replicate k none) ++ (xs.drop i).map some ++ List.drop (i + vs.length + min (xs.length - i) (min (xs.length - i) (xs.length + k - i))) (xs.map some ++ List.replicate k none)) = (xs.take i).map some by
    rw [List.append_assoc, List.take_append_of_le_length (by simp; omega), List.take_take, Nat.min_eq_left (by omega), raw_take (by omega)]]
  rw [show i + min (xs.length + vs.length - i) vs.length = i + vs.length by omega, List.drop_append_of_le_length (by simp; omega), List.drop_append_of_le_length (by simp; omega), List.drop_of_length_le (by simp; omega), List.nil_append, ← List.append_assoc, tk2]
  · simp
  · simp; omega
end
section
variable {k : Ty} {α : Type} {a b : k.den} {d v : α}
end
end Go.Eng

set_option linter.unusedVariables false
set_option linter.unusedSimpArgs false
namespace Go.Eng
theorem run_bytesOfSlice {P : Program} {w : World} {F : Nat → Prop} {xs : List Int} {x : Value} {A : Option Addr} {cap : Nat} {cells : List Value} (q : View w F (.int .u8) xs x A cap cells) :
    (Extern.Bytes.bytesOf x).run P w = .ok ⟨⟨strOfBytes xs⟩⟩ w := by
  rw [q.val]
  cases A with
  | none =>
    have h0 := q.nil rfl
    have h1 := q.le
    have : xs = [] := List.eq_nil_of_length_eq_zero (by omega)
    subst this
    rfl
  | some ad =>
    have hrow := bytes_rows xs cells q.rows
    have hl := Lib.run_loadBytesX (P := P) w xs ad .empty (fun j y hj => q.cell ad rfl j (.int .u8 y) (by rw [hrow, List.getElem?_map, hj]; rfl))
    have he : (⟨ByteArray.empty.data ++ (Lib.bytesOf xs).toArray⟩ : ByteArray) = ⟨⟨strOfBytes xs⟩⟩ := by
      apply ByteArray.ext
      show (#[] : Array UInt8) ++ (Lib.bytesOf xs).toArray = (strOfBytes xs).toArray
      simp [Lib.bytesOf, strOfBytes]
    rw [he] at hl
    exact hl
def xIndexByte : Spec := ⟨fun args h _ => match args with
  | [v, .i .u8 c] => match viewL h true (.int .u8) v with
    | some xs => some ([], .i .i64 (Lib.indexByte (strOfBytes xs) c.toNat.toUInt8), [])
    | none => none
  | _ => none, fun _ _ _ => none, noK, noT⟩
theorem indexByte_bd (l : List UInt8) (c : UInt8) : -1 ≤ Lib.indexByte l c ∧ Lib.indexByte l c < (l.length : Int) := by
  induction l with
  | nil => simp [Lib.indexByte]
  | cons b l ih =>
    simp only [Lib.indexByte, List.length_cons]
    split
    · omega
    · split <;> omega
theorem xIndexByte_ok {P : Program} {f : FuncId} {fn : Func} (hf : P.funcs[f]? = some fn) (hname : (fn.name == "runtime.NumGoroutine") = false) (hb : fn.body.isNone = true) (hn : Extern.findNext fn = none)
    (he : Extern.find fn = some Extern.BytealgIndexByte.indexByte) : XOk P f xIndexByte := by
  refine ⟨fun C w g h fresh args vals c v news hP R hv hs hc => ?_, fun _ _ _ => rfl, rfl, fun _ _ _ => rfl⟩
  simp only [xIndexByte] at hs
  split at hs
  · rename_i a cc
    split at hs
    · rename_i xs hxs
      simp only [Option.some.injEq, Prod.mk.injEq] at hs
      obtain ⟨rfl, rfl, rfl⟩ := hs
      simp only [RVs] at hv
      obtain ⟨x, _, rfl, h1, y, _, rfl, h2, rfl⟩ := hv
      simp only [RV] at h2
      obtain ⟨rfl, _⟩ := h2
      obtain ⟨A, cap, cells, q, _⟩ := viewL_sound R hxs h1
      refine ⟨.int .i64 (Lib.indexByte (strOfBytes xs) cc.toNat.toUInt8), ?_, QRes.pure ?_⟩
      · rw [run_callFunc_extern hf hname hb hn he]
        have hs := Lib.run_indexByteString (P := P) ⟨⟨strOfBytes xs⟩⟩ cc w
        have hb := run_bytesOfSlice (P := P) q
        have : (Extern.BytealgIndexByte.indexByte [x, Value.int .u8 cc].toArray).run P w = .ok (.int .i64 (Lib.indexByte (strOfBytes xs) cc.toNat.toUInt8)) w := by
          change Sem.run P (do
            let b ← Extern.Bytes.bytesOf x
            let c ← Extern.Bytes.asByte (.int .u8 cc)
            match (List.range b.size).find? fun i => b[i]! == c with
            | some i => pure (goInt i)
            | none => pure (goInt (-1))) w = _
          change Sem.run P (do
            let b ← Extern.Bytes.bytesOf (.string ⟨⟨strOfBytes xs⟩⟩)
            let c ← Extern.Bytes.asByte (.int .u8 cc)
            match (List.range b.size).find? fun i => b[i]! == c with
            | some i => pure (goInt i)
            | none => pure (goInt (-1))) w = _ at hs
          simp only [Sem.run_bind, hb, Result.andThen] at hs ⊢
          simp only [Extern.Bytes.bytesOf, Sem.run_pure] at hs
          exact hs
        rw [this]
        rfl
      · have := indexByte_bd (strOfBytes xs) cc.toNat.toUInt8
        have h3 := q.le
        have h4 := q.max
        have h5 : (strOfBytes xs).length = xs.length := by simp [strOfBytes]
        generalize Lib.indexByte (strOfBytes xs) cc.toNat.toUInt8 = k at this ⊢
        simp only [RV, true_and, IntKind.min, IntKind.max, IntKind.signed, IntKind.bits]
        unfold maxLen at h4
        constructor <;> simp <;> omega
    · simp at hs
  · simp at hs
def xOverlaps : Spec := ⟨fun args h _ => match args with
  | [.own i, .vw id _ _ n _] => match lookN h i, lookN h id, Nat.beq i id with
    | some (.arr _ _ xs), some (.raw _ _ _), false => some ([0 < xs.length, 0 < n], .bl false, [])
    | _, _, _ => none
  | _ => none, fun _ _ _ => none, noK, noT⟩
theorem xOverlaps_ok {P : Program} {T : Tab} (hT : TabOk P T) {f : FuncId} {fn : Func} (hf : P.funcs[f]? = some fn) (hname : (fn.name == "runtime.NumGoroutine") = false) (hb : fn.body.isNone = true) (hn : Extern.findNext fn = none)
    (he : Extern.find fn = some (Extern.SlicesOverlaps.overlaps fn.params fn.resultTypes)) {t : TypeId} {tr : Array TypeId} (hp : fn.params = #[t, t]) (hr : fn.resultTypes = tr) {te : TypeId} {e : Ty} {b : Nat} {z : List ZC} (hel : elemT T t = some (te, e, b, z)) : XOk P f xOverlaps := by
  refine ⟨fun C w g h fresh args vals c v news hP R hv hs hc => ?_, fun _ _ _ => rfl, rfl, fun _ _ _ => rfl⟩
  subst hP
  simp only [xOverlaps] at hs
  split at hs
  · rename_i i id e2 lo n fl
    split at hs
    · rename_i te1 e1 xs1 te3 e3 xs3 ho1 ho2 hne
      simp only [Option.some.injEq, Prod.mk.injEq] at hs
      obtain ⟨rfl, rfl, rfl⟩ := hs
      obtain ⟨inf, zv, g1, g2, g3, g4, g5, g6, g7, g8, g9⟩ := elem_of hT hel
      simp only [RVs] at hv
      obtain ⟨x, _, rfl, h1, y, _, rfl, h2, rfl⟩ := hv
      refine ⟨.bool false, ?_, QRes.pure (by simp [RV])⟩
      rw [run_callFunc_extern hf hname hb hn he]
      have hsz : ∀ w, (Go.sizeOf te).run C.P w = .ok e.cells w := fun w => by simp [sizeOf, typeInfo, g2, g3]
      have : (Extern.SlicesOverlaps.overlaps fn.params fn.resultTypes [x, y].toArray).run C.P w = .ok (.bool false) w := by
        rw [hp, hr]
        simp only [RV] at h1 h2
        obtain ⟨hU1, rfl, A1, n1, cc1, hx⟩ := h1
        obtain ⟨hU2, A, m0, c0, A', c', q1, q2, q3, rfl, q4, q5, q6, q7⟩ := h2
        rw [hx]
        have hc1 : 0 < xs1.length := hc _ (by simp)
        have hc2 : 0 < n := hc _ (by simp)
        have z4 : A' ≠ none := fun h => by
          subst h
          rcases q7 with h | h
          · omega
          · cases A with
            | none => have := q2 rfl; omega
            | some ad => simp at h
        have z3 : A1 ≠ none := fun h => by
          subst h
          obtain ⟨A3, cap3, cells3, q⟩ := view_of_arr (R.obj i _ ho1).2
          have hv := q.val
          rw [hx] at hv
          simp at hv
          have := q.nil hv.1.symm
          have := q.le
          omega
        obtain ⟨a, rfl⟩ := Option.ne_none_iff_exists'.1 z3
        obtain ⟨b', rfl⟩ := Option.ne_none_iff_exists'.1 z4
        obtain ⟨cells, k1, k2, k3, k4⟩ := (R.obj i _ ho1).2
        rcases k1.2 with ⟨hnil, _⟩ | ⟨blk1, cap1, cur1, hval, _, hheap1, _⟩
        · rw [hx] at hnil; simp at hnil
        · rw [hx] at hval
          simp at hval
          obtain ⟨rfl, _, rfl⟩ := hval
          obtain ⟨blk2, cur2, rfl, rfl, p1, p2, p3, p4, p5⟩ := raw_cells (R.obj id _ ho2).2 q1 (lo := lo) (n := n) (by omega) (by omega)
          have hb' : b'.block = blk2 := by
            rcases q7 with h | h
            · omega
            · simp at h; rw [h, add_block]
          have hblk : blk1 ≠ blk2 := fun hcc => by
            subst hcc
            have := R.sep i _ id _ blk1 ho1 ho2 rfl rfl (by rw [hx]; rfl) (by rw [q1]; rfl)
            subst this
            simp at hne
          have hc2 : cur2.size ≠ 0 := by
            rw [p3]
            have h1 : 0 < xs3.length := by omega
            have h2 := (R.obj id _ ho2).2.1
            exact Nat.mul_ne_zero (by omega) (by omega)
          exact Lib.run_overlaps_apart w t tr[0]! te g1 e.cells hsz ⟨blk1, 0, none⟩ b' n1 cc1 n c' (by rw [hb']; exact hblk) te1 te3 cur1.size cur2.size (by simp [World.shape?, hheap1]) (by rw [hb']; simp [World.shape?, p1]) hc2 (by simp [World.frozen?, hheap1]) (by simp [World.frozen?, hheap1])
      rw [this]
      rfl
    · simp at hs
  · simp at hs
end Go.Eng

set_option linter.unusedVariables false
set_option linter.unusedSimpArgs false
namespace Go.Eng
open Go.RowKit (Below)
section
variable {C C' : Cx} {w w' : World} {g g' : Gh} {h : Heap} {T : Tab} {S : Specs} {N n : Nat} {keep : List (Nat × List Nat)}
theorem closed {fresh : Nat} {x : Value} {id : Nat} {e0 te e : _} {n : Nat} {xs : List (Option (Ty.den e))} (W : WRes C w g fresh (.vw id e0 0 n true) h x w' g') (h7 : ∀ id, g'.U id → g.U id ∨ (fresh ≤ id ∧ id < fresh + 7)) (hf : FreshIds g fresh)
    (ho : lookN h id = some (.raw te e xs)) (hall : (xs.take n).all Option.isSome = true) :
    ∃ g2, WRes C w g fresh (.own (fresh + 7)) ((fresh + 7, .arr te e ((xs.take n).map fun r => r.getD e.dflt)) :: delObj h id) x w' g2 := by
  have hU : ¬ g'.U (fresh + 7) := fun hc => by
    rcases h7 _ hc with h1 | h1
    · exact hf _ (by omega) (by omega) h1
    · omega
  have hv := W.val
  simp only [RV] at hv
  obtain ⟨hUi, A2, m2, c2, A3, c3, f1, f2, f3, rfl, f4, f5, f6, f7⟩ := hv
  have f6 := f6 trivial
  rw [Nat.zero_add] at f6
  subst f6
  have hA3 : A3 = A2 := by
    rcases f7 with f7 | f7
    · omega
    · rw [f7]; cases A2 <;> simp [Addr.add]
  subst hA3
  have hO := (W.rel.obj id _ ho).2
  obtain ⟨hcx, _⟩ := raw_cap hO f1
  let g2 : Gh := ⟨upd g'.anch (fresh + 7) (.slice A3 n c3), g'.F, fun k => g'.U k ∨ k = fresh + 7⟩
  have hanch : g2.anch (fresh + 7) = .slice A3 n c3 := upd_same _ _ _
  have hold : ∀ k, k ≠ fresh + 7 → g2.anch k = g'.anch k := fun k hk => upd_other _ _ _ hk
  have evo : Evo w' g' w' g2 := ⟨fun b hb => ⟨hb, rfl⟩, fun k hk => ⟨.inl hk, hold k (fun hc => hU (hc ▸ hk))⟩⟩
  have hlen : ((xs.take n).map fun r => r.getD e.dflt).length = n := by simp; omega
  have hblk : ∀ b, ablk (.slice A3 n c3) = some b → ablk (g'.anch id) = some b := fun b hb => by rw [f1]; cases A3 <;> first | exact hb | simp [ablk] at hb
  have hnew : RO C w' g2 (fresh + 7) (.arr te e ((xs.take n).map fun r => r.getD e.dflt)) := by
    obtain ⟨p0, ⟨p1, p2⟩ | ⟨blk, m, cur, p1, p2, p3, p4, p5, p6, p7⟩⟩ := hO
    · rw [f1] at p1
      simp at p1
      subst p2
      obtain ⟨rfl, rfl, rfl⟩ := p1
      have hn0 : n = 0 := by omega
      subst hn0
      exact ⟨[], ⟨by simp, .inl ⟨hanch, by simp⟩⟩, by simp [reps], p0, fun b hb => by rw [hanch] at hb; simp [ablk] at hb⟩
    · rw [f1] at p1
      simp at p1
      obtain ⟨rfl, rfl, hc3⟩ := p1
      have hnx : n * e.cells ≤ xs.length * e.cells := mul_len (by omega)
      have hr := rawRep_all (rawRep_take p6 n) (by rw [List.length_take, List.length_take, Array.length_toList, p5, Nat.min_eq_left hnx, Nat.min_eq_left (by omega)]) hall
      exact ⟨cur.toList.take (n * e.cells), ⟨by rw [List.length_take, Array.length_toList, p5, Nat.min_eq_left hnx, hlen], .inr ⟨blk, xs.length, cur, by rw [hanch, hlen, hc3], Nat.zero_le _, p2, by omega, p4, p5, by rw [hlen]⟩⟩, hr, p0, fun b hb => by
        rw [hanch] at hb; simp [ablk] at hb; subst hb; exact p7⟩
  have look : ∀ k o, lookN ((fresh + 7, Obj.arr te e ((xs.take n).map fun r => r.getD e.dflt)) :: delObj h id) k = some o → (k = fresh + 7 ∧ o = .arr te e ((xs.take n).map fun r => r.getD e.dflt)) ∨ (k ≠ fresh + 7 ∧ k ≠ id ∧ lookN h k = some o) := fun k o hk => by
    simp only [lookN] at hk
    cases hb : Nat.beq (fresh + 7) k
    · rw [hb] at hk
      have hk : lookN (delObj h id) k = some o := hk
      rw [lookN_delObj] at hk
      by_cases hid : k = id
      · rw [if_pos hid] at hk; cases hk
      · rw [if_neg hid] at hk
        exact .inr ⟨fun hc => by subst hc; simp at hb, hid, hk⟩
    · rw [hb] at hk
      simp only [Option.some.injEq] at hk
      exact .inl ⟨(Nat.eq_of_beq_eq_true hb).symm, hk.symm⟩
  refine ⟨g2, ⟨⟨W.rel.keep, W.rel.size, W.rel.os, W.rel.tape, W.rel.output, W.rel.F, W.rel.Fin, evo.pin W.rel.pin, W.rel.lam, fun k o hk => ?_, fun k1 o1 k2 o2 b h1 h2 m1 m2 b1 b2 => ?_⟩, ?_, ?_, fun k hk => ?_⟩⟩
  · rcases look k o hk with ⟨rfl, rfl⟩ | ⟨h3, h4, h5⟩
    · exact ⟨.inr rfl, hnew⟩
    · obtain ⟨q1, q2⟩ := W.rel.obj k o h5
      exact ⟨.inl q1, RO_mono q1 q2 evo (fun b hm hb => ⟨rfl, (RO_block q2 hm hb).2.2⟩)⟩
  · rcases look k1 o1 h1 with ⟨rfl, rfl⟩ | ⟨a1, a2, a3⟩ <;> rcases look k2 o2 h2 with ⟨rfl, rfl⟩ | ⟨c1, c2, c3⟩
    · rfl
    · exfalso
      rw [hanch] at b1
      rw [hold _ c1] at b2
      exact c2 (W.rel.sep _ _ _ _ b ho c3 rfl m2 (hblk b b1) b2).symm
    · exfalso
      rw [hanch] at b2
      rw [hold _ a1] at b1
      exact a2 (W.rel.sep _ _ _ _ b a3 ho m1 rfl b1 (hblk b b2))
    · rw [hold _ a1] at b1
      rw [hold _ c1] at b2
      exact W.rel.sep _ _ _ _ b a3 c3 m1 m2 b1 b2
  · exact ⟨fun b hb => ⟨(W.evo.F b hb).1, (W.evo.F b hb).2⟩, fun k hk => ⟨.inl (W.evo.A k hk).1, (hold k (fun hc => hU (hc ▸ (W.evo.A k hk).1))).trans (W.evo.A k hk).2⟩⟩
  · simp only [RV]
    exact ⟨.inr rfl, hanch.symm, _, _, _, rfl⟩
  · rcases hk with hk | rfl
    · exact W.U k hk
    · exact .inr ⟨by omega, by omega⟩
end
end Go.Eng

set_option linter.unusedVariables false
set_option linter.unusedSimpArgs false
namespace Go.Eng
def idxF {α : Type} (p : α → Bool) : List α → Nat → Int
  | [], _ => -1
  | x :: r, i => if p x then (i : Int) else idxF p r (i + 1)
theorem idxF_iff {α : Type} {p : α → Bool} : ∀ (l : List α) (i : Nat), 0 ≤ idxF p l i ↔ l.any p = true
  | [], i => by simp [idxF]
  | x :: r, i => by
    unfold idxF
    by_cases h : p x = true
    · rw [if_pos h]; simp [h]
    · have h' : p x = false := by simpa using h
      rw [if_neg h, List.any_cons, h', idxF_iff r (i + 1)]; simp
theorem idxF_any {α : Type} {p : α → Bool} (l : List α) (i : Nat) : decide (idxF p l i ≥ 0) = l.any p := by
  by_cases h : l.any p = true
  · rw [h]; exact decide_eq_true ((idxF_iff l i).2 h)
  · have h' : l.any p = false := by simpa using h
    rw [h']; exact decide_eq_false (fun hc => h ((idxF_iff l i).1 hc))
theorem getD_mem {α : Type} {xs : List α} {i : Nat} (d : α) (h : i < xs.length) : xs.getD i d ∈ xs := by
  rw [List.getD_eq_getElem?_getD, List.getElem?_eq_getElem h]
  exact List.getElem_mem h
theorem raw_getD {α : Type} {xs : List α} {k i : Nat} (d : α) (h : i < xs.length) : (xs.map some ++ List.replicate k none).getD i none = some (xs.getD i d) := by
  rw [raw_get h, List.getD_eq_getElem?_getD, List.getElem?_eq_getElem h]; rfl
structure DF {α : Type} (p : α → Bool) (xs : List α) (k : Nat) (zs : List (Option α)) (i j : Nat) : Prop where
  len : zs.length = xs.length + k
  cnt : i = ((xs.take j).filter (fun x => !p x)).length
  lt : i < j
  le : j ≤ xs.length
  front : zs.take i = ((xs.take j).filter (fun x => !p x)).map some
  rest : zs.drop j = (xs.map some ++ List.replicate k none).drop j
section
variable {α : Type} {p : α → Bool} {xs : List α} {k : Nat} {zs : List (Option α)} {i j : Nat}
theorem DF.get (d : α) (D : DF p xs k zs i j) (h : j < xs.length) : zs.getD j none = some (xs.getD j d) := by
  have := congrArg (fun l => l[0]?) D.rest
  simp only [List.getElem?_drop, Nat.add_zero] at this
  rw [List.getD_eq_getElem?_getD, this, ← List.getD_eq_getElem?_getD, raw_getD d h]
theorem DF.next (d : α) (D : DF p xs k zs i j) (h : j < xs.length) (hp : p (xs.getD j d) = true) : DF p xs k zs i (j + 1) := by
  have hf : (xs.take (j + 1)).filter (fun x => !p x) = (xs.take j).filter (fun x => !p x) := by
    rw [take_at d h, List.filter_append, List.filter_cons, hp]; simp
  exact ⟨D.len, by rw [hf]; exact D.cnt, by have := D.lt; omega, by omega, by rw [hf]; exact D.front, by
    have := congrArg (List.drop 1) D.rest
    rwa [List.drop_drop, List.drop_drop] at this⟩
theorem DF.keep (d : α) (D : DF p xs k zs i j) (h : j < xs.length) (hp : p (xs.getD j d) = false) : DF p xs k (zs.set i (some (xs.getD j d))) (i + 1) (j + 1) := by
  have hf : (xs.take (j + 1)).filter (fun x => !p x) = (xs.take j).filter (fun x => !p x) ++ [xs.getD j d] := by
    rw [take_at d h, List.filter_append, List.filter_cons, hp]; rfl
  have h1 := D.lt
  have h2 := D.len
  exact ⟨by rw [List.length_set]; exact D.len, by rw [hf, List.length_append, ← D.cnt]; rfl, by omega, by omega, by
    rw [hf, List.map_append, ← D.front, List.take_set, List.take_add_one, List.set_append_right _ _ (by rw [List.length_take]; omega)]
    congr 1
    rw [List.getElem?_eq_getElem (by omega), List.length_take, Nat.min_eq_left (by omega), Nat.sub_self]; rfl, by
    rw [List.drop_set_of_lt (by omega)]
    have := congrArg (List.drop 1) D.rest
    rwa [List.drop_drop, List.drop_drop] at this⟩
theorem DF.end (D : DF p xs k zs i j) (h : xs.length ≤ j) {r : List (Option α)} : (zs.take i ++ r).take i = (xs.filter (fun x => !p x)).map some := by
  rw [List.take_append_of_le_length (by rw [List.length_take]; have := D.len; have := D.lt; have := D.le; omega), List.take_take, Nat.min_self, D.front, List.take_of_length_le h]
end
end Go.Eng

set_option linter.unusedVariables false
set_option linter.unusedSimpArgs false
namespace Go.Eng
theorem sless_eq : ∀ (x y : List UInt8), sless x y = decide (x < y)
  | [], [] => by simp [sless, Op.bytesLess]
  | _ :: _, [] => by simp [sless, Op.bytesLess]
  | [], _ :: _ => by simp [sless, Op.bytesLess]
  | a :: x, b :: y => by
    have ih := sless_eq x y
    unfold sless at ih ⊢
    rw [Op.bytesLess, ih]
    simp only [List.cons_lt_cons_iff]
    by_cases h1 : a < b <;> by_cases h2 : a = b <;> by_cases h3 : x < y <;> simp [h1, h2, h3]
theorem sless_iff {x y : List UInt8} : sless x y = true ↔ x < y := by rw [sless_eq, decide_eq_true_iff]
theorem slt_irrefl (x : List UInt8) : ¬ x < x := List.lt_irrefl x
theorem slt_trans {x y z : List UInt8} (h : x < y) (k : y < z) : x < z := List.lt_trans h k
theorem slt_total {x y : List UInt8} (h : ¬ x < y) (k : ¬ y < x) : x = y := List.le_antisymm (List.not_lt.1 k) (List.not_lt.1 h)
theorem slt_asymm {x y : List UInt8} (h : x < y) : ¬ y < x := fun k => slt_irrefl x (slt_trans h k)
end Go.Eng

set_option linter.unusedVariables false
set_option linter.unusedSimpArgs false
namespace Go.Eng
theorem wrapU64 (n : Int) : IntKind.u64.wrap n = n % 18446744073709551616 := by
  simp [IntKind.wrap, IntKind.bits, IntKind.signed]
theorem wrapU8 (n : Int) : IntKind.u8.wrap n = n % 256 := by
  simp [IntKind.wrap, IntKind.bits, IntKind.signed]
theorem toNat64 {m : Nat} (h : m < 18446744073709551616) : (BitVec.ofInt 64 ((m : Nat) : Int)).toNat = m := by
  rw [BitVec.toNat_ofInt]
  have : (2 : Int) ^ 64 = 18446744073709551616 := by decide
  omega
theorem ibits_or {a b : Nat} (ha : a < 18446744073709551616) (hb : b < 18446744073709551616) : ibits .or .u64 (a : Int) (b : Int) = ((a ||| b : Nat) : Int) := by
  show IntKind.u64.wrap (((BitVec.ofInt 64 (a : Int) ||| BitVec.ofInt 64 (b : Int)).toNat : Nat) : Int) = _
  rw [BitVec.toNat_or, toNat64 ha, toNat64 hb, wrapU64]
  have : a ||| b < 2 ^ 64 := Nat.or_lt_two_pow (n := 64) (by simpa using ha) (by simpa using hb)
  omega
theorem or_byte {n c : Int} (hc : 0 ≤ c ∧ c ≤ 255) : ibits .or .u64 (IntKind.u64.wrap (n * 2 ^ min (Int.toNat 8) IntKind.u64.bits)) (IntKind.u64.wrap c) = (n * 256 + c) % 18446744073709551616 := by
  obtain ⟨c, rfl⟩ := Int.eq_ofNat_of_zero_le hc.1
  have hm := Int.emod_nonneg n (show (72057594037927936 : Int) ≠ 0 by decide)
  have hm2 := Int.emod_lt_of_pos n (show (0 : Int) < 72057594037927936 by decide)
  obtain ⟨m, hm0⟩ := Int.eq_ofNat_of_zero_le hm
  have hw : IntKind.u64.wrap (n * 2 ^ min (Int.toNat 8) IntKind.u64.bits) = ((m * 256 : Nat) : Int) := by
    rw [wrapU64, show (2 : Int) ^ min (Int.toNat 8) IntKind.u64.bits = 256 by decide]
    omega
  have hv : IntKind.u64.wrap (c : Int) = ((c : Nat) : Int) := by rw [wrapU64]; omega
  rw [hw, hv, ibits_or (by omega) (by omega)]
  have e3 : m * 256 ||| c = m * 256 + c := by
    have := Nat.two_pow_add_eq_or_of_lt (i := 8) (b := c) (by omega) m
    rw [Nat.mul_comm] at this
    exact this.symm
  rw [e3]
  omega
theorem shr8 (n : Int) {i : Nat} (hi : i < 8) : n.fdiv (2 ^ min (8 * (i : Int)).toNat IntKind.u64.bits) = n / 256 ^ i := by
  have h1 : min (8 * (i : Int)).toNat IntKind.u64.bits = 8 * i := by simp only [IntKind.bits]; omega
  rw [h1, Int.pow_mul]
  exact Int.fdiv_eq_ediv_of_nonneg _ (Int.le_of_lt (Int.pow_pos (by decide)))
theorem shrB (m : Int) : m.fdiv (2 ^ min (Int.toNat 8) IntKind.u64.bits) = m / 256 := by
  rw [show (2 : Int) ^ min (Int.toNat 8) IntKind.u64.bits = 256 by decide]
  exact Int.fdiv_eq_ediv_of_nonneg _ (by decide)
theorem div256_bd {n : Int} (hn : 0 ≤ n ∧ n ≤ 18446744073709551615) (i : Nat) : 0 ≤ n / 256 ^ i ∧ n / 256 ^ i ≤ 18446744073709551615 := by
  have hp : (0 : Int) < 256 ^ i := Int.pow_pos (by decide)
  refine ⟨Int.ediv_nonneg hn.1 (Int.le_of_lt hp), Int.le_trans (Int.ediv_le_self _ hn.1) hn.2⟩
end Go.Eng
