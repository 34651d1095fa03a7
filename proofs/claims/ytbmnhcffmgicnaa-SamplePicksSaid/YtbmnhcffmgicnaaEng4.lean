import Derived.Test.YtbmnhcffmgicnaaEng3
import Derived.Lib.BytesEntry
import Derived.Laws.Externs
import Derived.Lib.Overlaps
/- Texts, one behind the other. -/
set_option linter.unusedVariables false
set_option linter.unusedSimpArgs false
namespace Go.Eng
open Go.RowKit (Below)
inductive MK where
  | d (t : Ty) | m (ps : List RK)
@[reducible] def MK.den : MK → Type
  | .d t => t.den
  | .m ps => PDen ps
@[reducible] def MDen : List MK → Type
  | [] => Unit
  | k :: r => k.den × MDen r
def mutsOf : List MK → List RS
  | [] => []
  | .d _ :: r => mutsOf r
  | .m ps :: r => ⟨true, ps⟩ :: mutsOf r
structure MSpec where
  args : List MK
  res : List RS
  pre : MDen args → Prop
  fn : MDen args → RDen (res ++ mutsOf args)

def readMArgs (h : Heap) : (l : List MK) → List V → Option (MDen l × List Nat × List V)
  | [], [] => some ((), [], [])
  | .d t :: r, v :: vs => match readArg h false (.d t) v with
    | some x => match readMArgs h r vs with
      | some (y, ids, os) => some ((x, y), ids, os)
      | none => none
    | none => none
  | .m ps :: r, .ptr id 0 :: vs => match lookN h id with
    | some (.box cs) => match readPs h ps cs with
      | some x => match readMArgs h r vs with
        | some (y, ids, os) => some ((x, y), id :: ids, oPs ps cs ++ os)
        | none => none
      | none => none
    | _ => none
  | _, _ => none
def dCells : List MK → List V → List V
  | .d _ :: r, v :: vs => v.cells ++ dCells r vs
  | _ :: r, _ :: vs => dCells r vs
  | _, _ => []
def delAll : List Nat → Heap → Heap
  | [], h => h
  | id :: r, h => delAll r (delObj h id)
def setBoxes : List Nat → List V → Heap → Heap
  | id :: r, .agg cs :: vs, h => setBoxes r vs (setObj h id (.box cs))
  | _, _, h => h
def packV : List V → V
  | [v] => v
  | vs => .tup vs
def runM (s : MSpec) (args : List V) (h : Heap) (fresh : Nat) : R :=
  match readMArgs (freezeAll h (dCells s.args args)) s.args args with
  | some (xs, ids, os) => match nodupN (ids ++ ownIds os) with
    | true => some ([s.pre xs], packV ((rsV (s.res ++ mutsOf s.args) (s.fn xs) fresh).take s.res.length),
        rsH (s.res ++ mutsOf s.args) (s.fn xs) fresh ++ setBoxes ids ((rsV (s.res ++ mutsOf s.args) (s.fn xs) fresh).drop s.res.length) (delAll (ownIds os) (freezeAll h (dCells s.args args))))
    | false => none
  | none => none
def runT (s : MSpec) (args : List V) (h : Heap) (fresh : Nat) : Option (List Prop × V × Nat × Obj) :=
  match ownIds (dCells s.args args), rsN (s.res ++ mutsOf s.args) with
  | [], 0 => match readMArgs h s.args args with
    | some (xs, [id], []) => match (rsV (s.res ++ mutsOf s.args) (s.fn xs) fresh).drop s.res.length with
      | [.agg cs] => some ([s.pre xs], packV ((rsV (s.res ++ mutsOf s.args) (s.fn xs) fresh).take s.res.length), id, .box cs)
      | _ => none
    | _ => none
  | _, _ => none
def MSpec.spec (s : MSpec) : Spec := ⟨fun _ _ _ => none, runM s, noK, runT s⟩

section
variable {C : Cx} {w w' : World} {g g' : Gh} {h : Heap} {T : Tab} {S : Specs} {N n : Nat} {keep : List (Nat × List Nat)}
theorem delAll_look : ∀ (l : List Nat) (h : Heap) (k : Nat), lookN (delAll l h) k = if k ∈ l then none else lookN h k
  | [], h, k => by simp [delAll]
  | id :: r, h, k => by
    simp only [delAll]
    rw [delAll_look r, lookN_delObj]
    by_cases h1 : k = id
    · subst h1; simp
    · simp [h1]
theorem mem_ownIds : ∀ (l : List V) (i : Nat), i ∈ ownIds l ↔ V.own i ∈ l
  | [], i => by simp [ownIds]
  | v :: l, i => by cases v <;> simp [ownIds, mem_ownIds l]
end
end Go.Eng

set_option linter.unusedVariables false
set_option linter.unusedSimpArgs false
namespace Go.Eng
open Go.RowKit (Below)
structure NSpec where
  args : List AK
  ps : List RK
  pre : ADen args → Prop
  fn : ADen args → PDen ps
def Gh.data (F : Nat → Prop) : Gh := ⟨fun _ => .slice none 0 0, F, fun _ => False⟩
def runNQ (L : LSpecs) (s : NSpec) (args : List V) (h : Heap) (fresh : Nat) : R :=
  match readArgs L h false s.args args with
  | some xs => some ([s.pre xs], .ptr fresh 0, [(fresh, .box (psV s.ps (s.fn xs) 0))])
  | none => none
def runNL (L : LSpecs) (s : NSpec) (args : List V) (h : Heap) (fresh : Nat) : R :=
  match runNQ L s args (freezeAll h (argCells s.args args)) fresh with
  | some (c, v, news) => some (c, v, news ++ freezeAll h (argCells s.args args))
  | none => none
def NSpec.spec (L : LSpecs) (s : NSpec) : Spec := ⟨runNQ L s, runNL L s, noK, noT⟩
end Go.Eng

set_option linter.unusedVariables false
set_option linter.unusedSimpArgs false
namespace Go.Eng
open Go.RowKit (Below)
section
variable {C C' : Cx} {w w' : World} {g g' : Gh} {h : Heap} {T : Tab} {S : Specs} {N n : Nat} {keep : List (Nat × List Nat)}
mutual
theorem RV_cx (hP : C'.P = C.P) (h1 : C'.lw = C.lw) (h2 : C'.lK = C.lK) : ∀ (v : V) (x : Value), RV C w g v x → RV C' w g v x
  | .any, _, _ => by simp [RV]
  | .bl _, _, hv => by simp only [RV] at hv ⊢; exact hv
  | .b _, _, hv => by simp only [RV] at hv ⊢; exact hv
  | .i _ _, _, hv => by simp only [RV] at hv ⊢; exact hv
  | .s _, _, hv => by simp only [RV] at hv ⊢; exact hv
  | .sl e xs, v, hv => by simp only [RV] at hv ⊢; exact hv
  | .nil, _, hv => by simp only [RV] at hv ⊢; exact hv
  | .np, _, hv => by simp only [RV] at hv ⊢; exact hv
  | .nf, _, hv => by simp only [RV] at hv ⊢; exact hv
  | .nm, _, hv => by simp only [RV] at hv ⊢; exact hv
  | .own id, _, hv => by simp only [RV] at hv ⊢; exact hv
  | .ptr id col, _, hv => by simp only [RV] at hv ⊢; exact hv
  | .ep id e r c, _, hv => by simp only [RV] at hv ⊢; exact hv
  | .mp id, _, hv => by simp only [RV] at hv ⊢; exact hv
  | .vw id e lo n fl, _, hv => by simp only [RV] at hv ⊢; exact hv
  | .lam a b p, _, hv => by simp only [RV] at hv ⊢; rw [hP, h1, h2]; exact hv
  | .fn f cs, v, hv => by
    simp only [RV] at hv ⊢
    obtain ⟨vs, q1, q2⟩ := hv
    exact ⟨vs, q1, RVs_cx hP h1 h2 cs vs q2⟩
  | .agg cs, v, hv => by
    simp only [RV] at hv ⊢
    obtain ⟨vs, q1, q2⟩ := hv
    exact ⟨vs, q1, RVs_cx hP h1 h2 cs vs q2⟩
  | .tup cs, v, hv => by
    simp only [RV] at hv ⊢
    obtain ⟨vs, q1, q2⟩ := hv
    exact ⟨vs, q1, RVs_cx hP h1 h2 cs vs q2⟩
  | .rp cs, v, hv => by
    simp only [RV] at hv ⊢
    obtain ⟨a, vs, q1, q2, q3, q4⟩ := hv
    exact ⟨a, vs, q1, q2, q3, RVs_cx hP h1 h2 cs vs q4⟩
  | .ifc t u, v, hv => by
    simp only [RV] at hv ⊢
    obtain ⟨y, q1, q2⟩ := hv
    exact ⟨y, q1, RV_cx hP h1 h2 u y q2⟩
  | .os e f xs, v, hv => by simp only [RV] at hv ⊢; exact hv
theorem RVs_cx (hP : C'.P = C.P) (h1 : C'.lw = C.lw) (h2 : C'.lK = C.lK) : ∀ (cs : List V) (vs : List Value), RVs C w g cs vs → RVs C' w g cs vs
  | [], _, hv => by simp only [RVs] at hv ⊢; exact hv
  | c :: cs, _, hv => by
    simp only [RVs] at hv ⊢
    obtain ⟨x, xs, q1, q2, q3⟩ := hv
    exact ⟨x, xs, q1, RV_cx hP h1 h2 c x q2, RVs_cx hP h1 h2 cs xs q3⟩
end
theorem RO_cx (hP : C'.P = C.P) (h1 : C'.lw = C.lw) (h2 : C'.lK = C.lK) {id : Nat} {o : Obj} (hm : ∀ b, o.mut = true → ablk (g.anch id) = some b → MutOk C g b → MutOk C' g b) (ho : RO C w g id o) : RO C' w g id o := by
  cases o with
  | box cs =>
    obtain ⟨blk, vs, te, q1, q2, q3, q4, q5⟩ := ho
    exact ⟨blk, vs, te, q1, q2, RVs_cx hP h1 h2 _ _ q3, q4, hm blk rfl (by rw [q1]; rfl) q5⟩
  | arr te e xs =>
    obtain ⟨cells, q1, q2, q3, q4⟩ := ho
    exact ⟨cells, q1, q2, q3, fun b hb => hm b rfl hb (q4 b hb)⟩
  | ice e xs => exact ho
  | map a b l =>
    obtain ⟨blk, es, clock, q1, q2, q3, q5, q4⟩ := ho
    exact ⟨blk, es, clock, q1, q2, q3, q5, hm blk rfl (by rw [q1]; rfl) q4⟩
  | raw te e xs =>
    obtain ⟨q0, q1 | ⟨blk, m, cur, q1, q2, q3, q4, q5, q6, q7⟩⟩ := ho
    · exact ⟨q0, .inl q1⟩
    · exact ⟨q0, .inr ⟨blk, m, cur, q1, q2, q3, q4, q5, q6, hm blk rfl (by rw [q1]; rfl) q7⟩⟩
  | xar te e xs =>
    obtain ⟨⟨cells, q1, q2, q3, q4⟩, q5⟩ := ho
    exact ⟨⟨cells, q1, q2, q3, fun b hb => hm b rfl hb (q4 b hb)⟩, q5⟩
  | arx te e rows =>
    obtain ⟨cells, q1, q2, q3, q4⟩ := ho
    exact ⟨cells, q1, q2, q3, fun b hb => hm b rfl hb (q4 b hb)⟩

theorem keysH_look : ∀ (h : Heap) (id : Nat), (∃ o, lookN h id = some o) ↔ id ∈ keysH h
  | [], id => by simp [keysH, lookN]
  | (k, o) :: r, id => by
    simp only [keysH, lookN, List.mem_cons]
    cases hb : Nat.beq k id
    · have hne : ¬ id = k := fun e => by subst e; simp at hb
      simp only [hne, false_or]
      exact keysH_look r id
    · obtain rfl := Nat.eq_of_beq_eq_true hb
      simp
theorem idNames_mem : ∀ (l : List Nat) (a b : Nat), (a, b) ∈ idNames l ↔ a = b ∧ a ∈ l
  | [], a, b => by simp [idNames]
  | n :: r, a, b => by
    simp only [idNames, List.mem_cons, Prod.mk.injEq, idNames_mem r a b]
    constructor
    · rintro (⟨rfl, rfl⟩ | ⟨rfl, h⟩)
      · exact ⟨rfl, .inl rfl⟩
      · exact ⟨rfl, .inr h⟩
    · rintro ⟨rfl, rfl | h⟩
      · exact .inl ⟨rfl, rfl⟩
      · exact .inr ⟨rfl, h⟩
theorem idNames_snd : ∀ (l : List Nat), (idNames l).map (·.2) = l
  | [] => rfl
  | n :: r => by simp [idNames, idNames_snd r]
theorem okKeys_out {ks : List Nat} {fresh : Nat} : ∀ (l : List Nat), okKeys ks fresh l = true → ∀ k ∈ l, k ∈ ks ∨ (fresh ≤ k ∧ k < fresh + 7)
  | [], _, k, h => by simp at h
  | a :: r, hs, k, h => by
    simp only [okKeys] at hs
    split at hs
    · rename_i hm
      rcases List.mem_cons.1 h with rfl | h
      · exact .inl ((memN_iff _ _).1 hm)
      · exact okKeys_out r hs k h
    · split at hs
      · rename_i hb
        simp only [Bool.and_eq_true] at hb
        rcases List.mem_cons.1 h with rfl | h
        · exact .inr ⟨Nat.le_of_ble_eq_true hb.1, Nat.le_of_ble_eq_true hb.2⟩
        · exact okKeys_out r hs k h
      · cases hs
theorem RelH.names {ks : List Nat} (hnd : ks.Nodup) (R : RelH C h w g) (hp : ∀ j ∈ C.pins.1, j ∈ ks) : RelH C (renHeap (idNames ks) h (idNames ks)) w (gren g (idNames ks)) := by
  have hnd' : ((idNames ks).map (·.2)).Nodup := by rw [idNames_snd]; exact hnd
  refine ⟨R.keep, R.size, R.os, R.tape, R.output, R.F, R.Fin, fun j hj => ?_, R.lam, fun j o hj => ?_, ?_⟩
  · have hm : (j, j) ∈ idNames ks := (idNames_mem _ _ _).2 ⟨rfl, hp j hj⟩
    exact ⟨⟨j, hm⟩, by rw [(gren_mem hnd' hm).1]; exact (R.pin j hj).2⟩
  · obtain ⟨id, o', h2, h3, h4⟩ := renHeap_look (idNames ks) h (idNames ks) j o hj
    subst h4
    exact ⟨⟨id, h2⟩, renObj_rel hnd' h2 (R.obj id o' h3).2⟩
  · intro j1 o1 j2 o2 b hj1 hj2 hm1 hm2 hb1 hb2
    obtain ⟨id1, p1, q2, q3, q4⟩ := renHeap_look (idNames ks) h (idNames ks) j1 o1 hj1
    obtain ⟨id2, p2, s2, s3, s4⟩ := renHeap_look (idNames ks) h (idNames ks) j2 o2 hj2
    subst q4; subst s4
    rw [renObj_mut] at hm1 hm2
    rw [(gren_mem (g := g) hnd' q2).1] at hb1
    rw [(gren_mem (g := g) hnd' s2).1] at hb2
    obtain ⟨rfl, _⟩ := (idNames_mem _ _ _).1 q2
    obtain ⟨rfl, _⟩ := (idNames_mem _ _ _).1 s2
    exact R.sep id1 p1 id2 p2 b q3 s3 hm1 hm2 hb1 hb2
theorem gren_id {ks : List Nat} (hnd : ks.Nodup) {j : Nat} (hj : j ∈ ks) : (gren g (idNames ks)).anch j = g.anch j :=
  (gren_mem (by rw [idNames_snd]; exact hnd) ((idNames_mem _ _ _).2 ⟨rfl, hj⟩)).1
theorem gren_U {ks : List Nat} {j : Nat} : (gren g (idNames ks)).U j ↔ j ∈ ks :=
  ⟨fun ⟨id, h⟩ => by obtain ⟨rfl, h1⟩ := (idNames_mem _ _ _).1 h; exact h1, fun h => ⟨j, (idNames_mem _ _ _).2 ⟨rfl, h⟩⟩⟩

theorem inl_k {P : Program} (hT : TabOk P T) (hS : SpecsOk P S) (hmix : P.follows .mixedOrders = true) {f : FuncId} {fn : Func} (hf : P.funcs[f]? = some fn)
    (hok : (match fn.body with | some c => codeOk fn.ntmps c | none => false) = true) {C : Cx} {w : World} {g : Gh} {h : Heap} {fresh : Nat} {args : List V} {vals : List Value} {K : V → Heap → Prop} (hP : C.P = P) (R : RelH C h w g) (hfr : FreshIds g fresh) (hub : ∀ id, g.U id → id < fresh) (hv : RVs C w g args vals)
    (hs : inlK T S keep fn args h fresh K) : Calls P f vals.toArray w fun e w' => ∃ x g' v h', e = .returned x ∧ K v h' ∧ WRes C w g fresh v h' x w' g' ∧ ∀ id, g'.U id → g.U id ∨ (fresh ≤ id ∧ id < fresh + 7) := by
  subst hP
  simp only [inlK] at hs
  split at hs
  rotate_left
  · exact hs.elim
  rename_i hlen
  have hlen := Nat.le_of_ble_eq_true hlen
  cases hb : fn.body with
  | none => simp [hb] at hs
  | some c =>
    simp only [hb] at hs hok
    rw [forceNs_eq] at hs
    split at hs
    · exact hs.elim
    rename_i hks
    simp only [Bool.and_eq_true] at hks
    rw [forceVs_eq, forceH_eq] at hs
    have hnd := nodupN_iff _ hks.2
    have hlt := allLt_iff _ _ hks.1
    have hkey := keysH_look h
    revert hs
    generalize hksd : keysH h = ks at hnd hlt hkey ⊢
    intro hs
    let M' : Nat → Prop := fun b => ∃ id o, lookN h id = some o ∧ o.mut = true ∧ ablk (g.anch id) = some b
    let C' : Cx := ⟨C.P, w, M', g.F, (ks, fresh), g.anch, C.lw, C.lK⟩
    have hM : ∀ b, M' b → b < w.heap.size ∧ MutOk C g b := fun b ⟨id, o, q1, q2, q3⟩ => RO_block (R.obj id o q1).2 q2 q3
    have hKK : ∀ b, C.K b → C'.K b := fun b hb => ⟨Nat.lt_of_lt_of_le hb.1 R.size, fun hm => by
      rcases (hM b hm).2.1 with h1 | h1
      · exact hb.2 h1
      · have := hb.1; omega⟩
    have R1 : RelH C' h w g := by
      refine ⟨fun _ _ => rfl, Nat.le_refl _, rfl, rfl, rfl, R.F, fun b hb => .inl hb, fun j hj => ?_, ⟨fun b hb => ⟨hKK b (R.lam.1 b hb).1, (R.keep b (R.lam.1 b hb).1).trans (R.lam.1 b hb).2⟩, Nat.le_trans R.lam.2 R.size⟩, fun id o ho => ?_, R.sep⟩
      · obtain ⟨o, ho⟩ := (hkey j).2 hj
        exact ⟨(R.obj j o ho).1, rfl⟩
      · obtain ⟨q1, q2⟩ := R.obj id o ho
        exact ⟨q1, RO_cx (C := C) (C' := C') rfl rfl rfl (fun b hm hb hmo => ⟨.inl ⟨id, o, ho, hm, hb⟩, hmo.2⟩) q2⟩
    have R2 := R1.names hnd (fun j hj => hj)
    have hnd' : ((idNames ks).map (·.2)).Nodup := by rw [idNames_snd]; exact hnd
    have hv2 : RVs C' w (gren g (idNames ks)) (renVs (idNames ks) args) vals := renVs_rel hnd' _ _ (RVs_cx (C := C) (C' := C') rfl rfl rfl _ _ hv)
    have hvl := RVs_len hv
    refine calls_of_wp hf hb ?_
    have hsz : (vals.toArray ++ Array.replicate (fn.ntmps - vals.toArray.size) undef).size = fn.ntmps := by simp; omega
    have r : RelT C' fn.ntmps ⟨paramEnv 0 (renVs (idNames ks) args), renHeap (idNames ks) h (idNames ks)⟩ { tmps := vals.toArray ++ Array.replicate (fn.ntmps - vals.toArray.size) undef, defers := [] } w (gren g (idNames ks)) := by
      refine ⟨R2, fun t v ht => ?_, fun id hid => ?_, hsz, rfl⟩
      · obtain ⟨_, h2⟩ := paramEnv_look _ 0 t v ht
        rw [Nat.sub_zero] at h2
        obtain ⟨x, h3, h4⟩ := RVs_at hv2 h2
        refine ⟨x, ?_, h4⟩
        have hlt := (List.getElem?_eq_some_iff.1 h3).1
        simp only
        rw [Array.getElem?_append_left (by simpa using hlt)]
        simpa using h3
      · have := hlt id (gren_U.1 hid)
        show id < fresh + _
        omega
    refine vc_sound (C := C') (keep := (3000000, ks) :: (3000001, [fresh]) :: keep) rfl hT hS hmix c _ _ _ w _ hok hs r _ fun e st a w' g' hk r => ?_
    -- behind the body
    have fin : ∀ (v : V) (x : Value), exitK ks fresh st.heap v K → RV C' w' g' v x → ∃ g2 v2 h2, K v2 h2 ∧ WRes C w g fresh v2 h2 x w' g2 ∧ ∀ id, g2.U id → g.U id ∨ (fresh ≤ id ∧ id < fresh + 7) := by
      intro v x hx hvx
      unfold exitK at hx
      rw [forceNs_eq] at hx
      split at hx
      rotate_left
      · exact hx.elim
      rename_i hk2
      simp only [Bool.and_eq_true] at hk2
      rw [forceV_eq, forceH_eq] at hx
      have hnd2 := nodupN_iff _ hk2.2
      have hok2 := okKeys_out _ hk2.1
      have hkey2 := keysH_look st.heap
      revert hx
      generalize keysH st.heap = ks2 at hnd2 hok2 hkey2 ⊢
      intro hx
      have hpin2 : ∀ j ∈ ks, g'.U j ∧ g'.anch j = g.anch j := fun j hj => r.H.pin j hj
      have hndn : ((idNames ks2).map (·.2)).Nodup := by rw [idNames_snd]; exact hnd2
      classical
      let FF : Nat → Prop := fun b => g.F b ∨ g'.F b
      let g2 : Gh := ⟨fun id => if id ∈ ks2 then g'.anch id else g.anch id, FF, fun id => g.U id ∨ id ∈ ks2⟩
      have hnew : ∀ id, id ∈ ks2 → g.U id → id ∈ ks := fun id h1 h2 => by
        rcases hok2 id h1 with h | h
        · exact h
        · have := hub id h2; omega
      have evo0 : Evo w g w' g2 := by
        refine ⟨fun b hb => ⟨.inl hb, ?_⟩, fun id hid => ⟨.inl hid, ?_⟩⟩
        · refine r.H.keep b ⟨R.F b hb, fun hm => (hM b hm).2.2 hb⟩
        · show (if id ∈ ks2 then g'.anch id else g.anch id) = g.anch id
          split
          · rename_i hin; exact (hpin2 id (hnew id hin hid)).2
          · rfl
      let gg := gren g' (idNames ks2)
      have evo1 : Evo w' gg w' g2 := by
        refine ⟨fun b hb => ⟨.inr hb, rfl⟩, fun id hid => ?_⟩
        have hin := gren_U.1 hid
        refine ⟨.inr hin, ?_⟩
        show (if id ∈ ks2 then g'.anch id else g.anch id) = _
        rw [if_pos hin]
        exact (gren_id hnd2 hin).symm
      have hFF : ∀ b, MutOk C' gg b → MutOk C g2 b := fun b ⟨q1, q2⟩ => by
        have hnF : ¬ g.F b := fun hF => by
          rcases q1 with q1 | q1
          · exact (hM b q1).2.2 hF
          · have := R.F b hF; simp only [C'] at q1; omega
        refine ⟨?_, fun hF => hF.elim hnF q2⟩
        rcases q1 with q1 | q1
        · exact (hM b q1).2.1
        · exact .inr (Nat.le_trans R.size q1)
      -- the heap as it is left
      have hobj : ∀ j o, lookN (renHeap (idNames ks2) st.heap (idNames ks2)) j = some o → g2.U j ∧ RO C w' g2 j o ∧ ∃ o', lookN st.heap j = some o' ∧ o'.mut = o.mut ∧ g2.anch j = g'.anch j := fun j o hj => by
        obtain ⟨id, o', h2, h3, h4⟩ := renHeap_look _ _ _ j o hj
        subst h4
        obtain ⟨rfl, hin⟩ := (idNames_mem _ _ _).1 h2
        have hO := renObj_rel (g := g') hndn h2 (r.H.obj id o' h3).2
        have hU : gg.U id := gren_U.2 hin
        have ha : g2.anch id = g'.anch id := by
          show (if id ∈ ks2 then g'.anch id else g.anch id) = _
          rw [if_pos hin]
        have ha' : gg.anch id = g'.anch id := gren_id hnd2 hin
        refine ⟨.inr hin, ?_, o', h3, (renObj_mut _ _).symm, ha⟩
        have hO2 := RO_mono (C := C') hU hO evo1 (fun b hm hb => ⟨rfl, fun hF => by
          have := RO_block hO hm hb
          exact (hFF b this.2).2 hF⟩)
        refine RO_cx (C := C') (C' := C) rfl rfl rfl (fun b hm hb _ => hFF b ?_) hO2
        have hb' : ablk (gg.anch id) = some b := by rw [ha']; rw [ha] at hb; exact hb
        exact (RO_block hO hm hb').2
      have hU7 : ∀ id, g2.U id → g.U id ∨ (fresh ≤ id ∧ id < fresh + 7) := fun id hid => by
        rcases hid with hid | hid
        · exact .inl hid
        · rcases hok2 id hid with h1 | h1
          · obtain ⟨o, ho⟩ := (hkey id).2 h1
            exact .inl (R.obj id o ho).1
          · exact .inr h1
      refine ⟨g2, _, _, hx, ⟨⟨fun b hb => ?_, Nat.le_trans R.size r.H.size, r.H.os.trans R.os, r.H.tape.trans R.tape, r.H.output.trans R.output, fun b hb => ?_, fun b hb => ?_, fun j hj => ?_, R.lam, fun j o hj => ⟨(hobj j o hj).1, (hobj j o hj).2.1⟩, fun j1 o1 j2 o2 b h1 h2 m1 m2 b1 b2 => ?_⟩, evo0, ?_, fun id hid => ?_⟩, hU7⟩
      · exact (r.H.keep b (hKK b hb)).trans (R.keep b hb)
      · exact hb.elim (fun h => Nat.lt_of_lt_of_le (R.F b h) r.H.size) (r.H.F b)
      · rcases hb with hb | hb
        · exact R.Fin b hb
        · rcases r.H.Fin b hb with h1 | h1 | h1
          · exact R.Fin b h1
          · exact .inr (hM b h1).2.1
          · exact .inr (.inr (Nat.le_trans R.size h1))
      · have h1 := R.pin j hj
        exact ⟨(evo0.A j h1.1).1, (evo0.A j h1.1).2.trans h1.2⟩
      · obtain ⟨_, _, p1, q1, q2, q3⟩ := hobj j1 o1 h1
        obtain ⟨_, _, p2, s1, s2, s3⟩ := hobj j2 o2 h2
        rw [q3] at b1
        rw [s3] at b2
        exact r.H.sep j1 p1 j2 p2 b q1 s1 (q2.trans m1) (s2.trans m2) b1 b2
      · exact RV_cx (C := C') (C' := C) rfl rfl rfl _ _ (RV_mono evo1 _ _ (renV_rel hndn v x hvx))
      · rcases hU7 id hid with h1 | h1
        · exact .inl h1
        · exact .inr ⟨h1.1, by omega⟩
    have run : ∀ vs, resVs T st fn.results.toList = some vs → ∃ xs : List Value, (results fn a.tmps).run C.P w' = .ok (if h : xs.toArray.size = 1 then xs.toArray[0] else .tuple xs.toArray) w' ∧ RVs C' w' g' vs xs := fun vs hvs => by
      obtain ⟨xs, h1, h2⟩ := resVs_sound (C := C') hT r _ _ hvs
      refine ⟨xs, ?_, h2⟩
      rw [results_eq, Array.mapM_eq_mapM_toList]
      simp only [Sem.run_bind, Sem.run_map, Result.andThen_ok, Sem.run_pure]
      have h1' : Sem.run C.P (List.mapM (resSem a.tmps) fn.results.toList) w' = .ok xs w' := h1
      simp only [h1', Result.andThen_ok]
    have all : (match resVs T st fn.results.toList with
        | none => False
        | some [v] => exitK ks fresh st.heap v K
        | some vs => exitK ks fresh st.heap (.tup vs) K) → a.defers = [] ∧ ∃ v, (results fn a.tmps).run C.P w' = .ok v w' ∧ ∃ x g' v' h', Ending.returned v = .returned x ∧ K v' h' ∧ WRes C w g fresh v' h' x w' g' ∧ ∀ id, g'.U id → g.U id ∨ (fresh ≤ id ∧ id < fresh + 7) := by
      intro hk
      refine ⟨r.df, ?_⟩
      cases hr : resVs T st fn.results.toList with
      | none => rw [hr] at hk; exact hk.elim
      | some vs =>
        rw [hr] at hk
        obtain ⟨xs, h1, h2⟩ := run vs hr
        match vs, hk, h2 with
        | [], hk, h2 =>
          simp only [RVs] at h2
          subst h2
          obtain ⟨g2, v2, h3, h4, h5⟩ := fin (.tup []) (.tuple #[]) hk (by simp [RV, RVs])
          exact ⟨_, h1, _, g2, v2, h3, rfl, h4, h5⟩
        | [v], hk, h2 =>
          simp only [RVs] at h2
          obtain ⟨x, _, rfl, h3, rfl⟩ := h2
          obtain ⟨g2, v2, h5, h6, h7⟩ := fin v x hk h3
          exact ⟨_, h1, _, g2, v2, h5, rfl, h6, by simpa using h7⟩
        | v1 :: v2 :: vs, hk, h2 =>
          have hl := RVs_len h2
          have hne : ¬ xs.toArray.size = 1 := by simp at hl ⊢; omega
          rw [dif_neg hne] at h1
          obtain ⟨g2, v3, h5, h6, h7⟩ := fin (.tup (v1 :: v2 :: vs)) (.tuple xs.toArray) hk (by simp only [RV]; exact ⟨xs, rfl, h2⟩)
          exact ⟨_, h1, _, g2, v3, h5, rfl, h6, h7⟩
    cases e with
    | normal => exact all hk
    | ret => exact all hk
    | exit id => exact hk.elim
    | goto l => exact hk.elim
theorem inl_ok {P : Program} (hT : TabOk P T) (hS : SpecsOk P S) (hmix : P.follows .mixedOrders = true) {f : FuncId} {fn : Func} (hf : P.funcs[f]? = some fn)
    (hok : (match fn.body with | some c => codeOk fn.ntmps c | none => false) = true) : SpecOk P f (inl T S keep fn) := by
  refine ⟨fun C w g h fresh args vals c v news hP R hf hv hs hc => by simp [inl] at hs, fun C w g h fresh args vals c v h' hP R hf hv hs hc => by simp [inl] at hs, fun C w g h fresh args vals K hP R hfr hub hv hs => ?_, fun _ _ _ _ _ _ _ _ _ _ _ _ _ _ _ _ _ hs _ => (by cases (show (none : Option (List Prop × V × Nat × Obj)) = some _ from hs)), fun _ _ _ _ _ _ _ hs => (by cases (show (none : Option (List Prop × V × Nat × Obj)) = some _ from hs))⟩
  exact (inl_k hT hS hmix hf hok hP R hfr hub hv hs).mono fun e w' ⟨x, g', v, h', h1, h2, h3, _⟩ => ⟨x, g', v, h', h1, h2, h3⟩
end
end Go.Eng

set_option linter.unusedVariables false
set_option linter.unusedSimpArgs false
namespace Go.Eng
open Go.RowKit (Below)
def argsO : (l : List RK) → PDen l → Nat → List V
  | [], _, _ => []
  | .d t :: r, x, k => vOfDen t x.1 :: argsO r x.2 k
  | .o _ _ :: r, x, k => .own k :: argsO r x.2 (k + 1)
def heapO : (l : List RK) → PDen l → Nat → Heap
  | [], _, _ => []
  | .d _ :: r, x, k => heapO r x.2 k
  | .o te e :: r, x, k => (k, .arr te e x.1) :: heapO r x.2 (k + 1)
structure OSpec where
  te : TypeId
  e : Ty
  args : List RK
  pre : List e.den → PDen args → Prop
  fn : List e.den → PDen args → List e.den
def readOs (h : Heap) : (l : List RK) → List V → Option (PDen l × List V)
  | [], [] => some ((), [])
  | .d t :: r, v :: vs => match readArg h false (.d t) v with
    | some x => match readOs h r vs with
      | some (y, os) => some ((x, y), os)
      | none => none
    | none => none
  | .o te e :: r, v :: vs => match ownL h te e v with
    | some x => match readOs h r vs with
      | some (y, os) => some ((x, y), v :: os)
      | none => none
    | none => none
  | _, _ => none
def cellsRs : List RK → List V → List V
  | .d _ :: r, v :: vs => v.cells ++ cellsRs r vs
  | .o _ _ :: r, _ :: vs => cellsRs r vs
  | _, _ => []
def runO (s : OSpec) (args : List V) (h : Heap) (fresh : Nat) : R :=
  match args with
  | a :: rest => match ownL (freezeAll h (cellsRs s.args rest)) s.te s.e a, readOs (freezeAll h (cellsRs s.args rest)) s.args rest with
    | some xs, some (ys, os) => match nodupN (ownIds (a :: os)) with
      | true => some ([s.pre xs ys], .own fresh, (fresh, .arr s.te s.e (s.fn xs ys)) :: delAll (ownIds (a :: os)) (freezeAll h (cellsRs s.args rest)))
      | false => none
    | _, _ => none
  | [] => none
def OSpec.spec (s : OSpec) : Spec := ⟨fun _ _ _ => none, runO s, noK, noT⟩
def readO (te : TypeId) (e : Ty) (v : V) (h : Heap) : Option (List (Option e.den)) :=
  match v with
  | .nil => some []
  | .own id => match lookN h id with
    | some (.arr te' e' xs) => match Nat.beq te te', castL e' e xs with
      | true, some xs => some (xs.map some)
      | _, _ => none
    | _ => none
  | .vw id e0 0 n true => match lookN h id with
    | some (.raw te' e' xs) => match Nat.beq te te', castO e' e xs, decEq e0 e with
      | true, some xs, isTrue _ => some (xs.take n)
      | _, _, _ => none
    | _ => none
  | _ => none

section
variable {C C' : Cx} {w w' : World} {g g' : Gh} {h : Heap} {T : Tab} {S : Specs} {N n : Nat} {keep : List (Nat × List Nat)}
theorem ownL_out {h : Heap} {te : TypeId} {e : Ty} {v : V} {xs : List e.den} (hs : ownL h te e v = some xs) : (v = .nil ∧ xs = []) ∨ ∃ id, v = .own id ∧ lookN h id = some (.arr te e xs) := by
  unfold ownL at hs
  split at hs
  · simp only [Option.some.injEq] at hs
    exact .inl ⟨rfl, hs.symm⟩
  · rename_i id
    split at hs
    · rename_i te' e' ys ho
      split at hs
      · rename_i hb
        obtain rfl := Nat.eq_of_beq_eq_true hb
        obtain ⟨rfl, hx⟩ := castL_eq hs
        simp at hx
        subst hx
        exact .inr ⟨id, rfl, ho⟩
      · simp at hs
    · simp at hs
  · simp at hs
def GoodR : (l : List RK) → PDen l → Prop
  | [], _ => True
  | .d t :: r, x => Good t x.1 ∧ GoodR r x.2
  | .o _ e :: r, x => Good (.slice e) x.1 ∧ GoodR r x.2
theorem arr_good {id : Nat} {te : TypeId} {e : Ty} {xs : List e.den} (ho : RO C w g id (.arr te e xs)) : Good (.slice e) xs := by
  obtain ⟨A, cap, cells, q⟩ := view_of_arr ho
  exact ⟨Nat.le_trans q.le q.max, fun x hx => by
    have : ∀ (xs : List e.den) (cs : List Value), reps w g.F e xs cs → ∀ x ∈ xs, Good e x := by
      intro xs
      induction xs with
      | nil => intro cs _ x h; simp at h
      | cons y r ih =>
        intro cs ⟨c, r', _, h1, h2⟩ x h
        rcases List.mem_cons.1 h with rfl | h
        · exact rep_good e _ c h1
        · exact ih r' h2 x h
    exact this xs cells q.rows x hx⟩
theorem readOs_sound (R : RelH C h w g) {g0 : Gh} {OS : List V} (hA : ∀ k, g0.anch k = oAnch g OS k) (hU : ∀ k, k < OS.length → g0.U k) (hF : ∀ b, g.F b → g0.F b)
    (hM : ∀ (k i b : Nat), OS[k]? = some (.own i) → ablk (g.anch i) = some b → MutOk C g b → MutOk C' g0 b) : ∀ (l : List RK) (vs : List V) (xs : PDen l) (os : List V) (us : List Value) (k : Nat), readOs h l vs = some (xs, os) → RVs C w g vs us →
      (∀ j c, os[j]? = some c → OS[k + j]? = some c) → RVs C' w g0 (argsO l xs k) us ∧ GoodR l xs ∧
      (∀ id o, lookN (heapO l xs k) id = some o → k ≤ id ∧ RO C' w g0 id o ∧ ∃ c, OS[id]? = some c ∧ (c = .nil ∨ ∃ i te e ys, c = .own i ∧ lookN h i = some (.arr te e ys))) ∧
      (∀ c ∈ os, c = .nil ∨ ∃ i te e ys, c = .own i ∧ lookN h i = some (.arr te e ys)) ∧ (heapO l xs k).length = os.length ∧ vs.length = l.length
  | [], [], xs, os, us, k, hs, hv, ho => by
    simp only [readOs, Option.some.injEq, Prod.mk.injEq] at hs
    obtain ⟨_, rfl⟩ := hs
    exact ⟨by simpa [argsO, RVs] using hv, trivial, fun id o h => by simp [heapO, lookN] at h, fun c h => by simp at h, rfl, rfl⟩
  | [], v :: vs, xs, os, us, k, hs, hv, ho => by simp [readOs] at hs
  | .d t :: r, [], xs, os, us, k, hs, hv, ho => by simp [readOs] at hs
  | .o te e :: r, [], xs, os, us, k, hs, hv, ho => by simp [readOs] at hs
  | .d t :: r, v :: vs, xs, os, us, k, hs, hv, ho => by
    simp only [readOs] at hs
    split at hs
    · rename_i x hx
      split at hs
      · rename_i y os' hy
        simp only [Option.some.injEq, Prod.mk.injEq] at hs
        obtain ⟨rfl, rfl⟩ := hs
        simp only [RVs] at hv
        obtain ⟨u, us', rfl, h1, h2⟩ := hv
        obtain ⟨i1, i2, i3, i4, i5, i6⟩ := readOs_sound R hA hU hF hM r vs y os' us' k hy h2 ho
        simp only [readArg] at hx
        split at hx
        · rename_i hsh
          split at hx
          · rename_i z hd
            simp only [Option.some.injEq] at hx
            subst hx
            obtain ⟨k1, k2⟩ := RV_shape hsh h1
            have hrep := toDen_all R hd (RV_cells h1 k1)
            have hrep0 : rep w g0.F t z u.cells.toList := rep_mono (fun b hb => ⟨hF b hb, rfl⟩) t z _ hrep
            have hrv : RV C' w g0 (vOfDen t z) u := RV_vOfDen t z u hrep0 k2
            exact ⟨by simp only [argsO, RVs]; exact ⟨u, us', rfl, hrv, i1⟩, ⟨vOfDen_good t z u hrv, i2⟩, fun id o h => i3 id o (by simpa [heapO] using h), i4, by simpa [heapO] using i5, by simp [i6]⟩
          · simp at hx
        · simp at hx
      · simp at hs
    · simp at hs
  | .o te e :: r, v :: vs, xs, os, us, k, hs, hv, ho => by
    simp only [readOs] at hs
    split at hs
    · rename_i x hx
      split at hs
      · rename_i y os' hy
        simp only [Option.some.injEq, Prod.mk.injEq] at hs
        obtain ⟨rfl, rfl⟩ := hs
        simp only [RVs] at hv
        obtain ⟨u, us', rfl, h1, h2⟩ := hv
        have hk : OS[k]? = some v := by simpa using ho 0 v (by simp)
        have hkl : k < OS.length := (List.getElem?_eq_some_iff.1 hk).1
        obtain ⟨i1, i2, i3, i4, i5, i6⟩ := readOs_sound R hA hU hF hM r vs y os' us' (k + 1) hy h2 (fun j c hc => by
          rw [show k + 1 + j = k + (j + 1) by omega]; exact ho (j + 1) c (by simpa using hc))
        have key : RV C' w g0 (.own k) u ∧ RO C' w g0 k (.arr te e x) ∧ Good (.slice e) x ∧ (v = .nil ∨ ∃ i te e ys, v = .own i ∧ lookN h i = some (.arr te e ys)) := by
          rcases ownL_out hx with ⟨rfl, rfl⟩ | ⟨id, rfl, hl⟩
          · have ha : g0.anch k = .slice none 0 0 := by rw [hA]; simp [oAnch, hk]
            simp only [RV] at h1
            refine ⟨by simp only [RV]; exact ⟨hU k hkl, by rw [ha, h1], none, 0, 0, h1⟩, ?_, ⟨by simp, fun y hy => by simp at hy⟩, .inl rfl⟩
            exact ⟨[], ⟨by simp, .inl ⟨ha, rfl⟩⟩, rfl, cells_pos e, fun b hb => by rw [ha] at hb; simp [ablk] at hb⟩
          · have ha : g0.anch k = g.anch id := by rw [hA]; simp [oAnch, hk]
            simp only [RV] at h1
            have hO := (R.obj id _ hl).2
            have hg := arr_good hO
            obtain ⟨cells, q1, q2, q3, q4⟩ := hO
            refine ⟨by simp only [RV]; exact ⟨hU k hkl, by rw [ha]; exact h1.2.1, h1.2.2⟩, ?_, hg, .inr ⟨id, _, _, _, rfl, hl⟩⟩
            exact ⟨cells, by rw [ha]; exact q1, reps_mono (fun b hb => ⟨hF b hb, rfl⟩) _ _ _ q2, q3, fun b hb => by
              rw [ha] at hb
              exact hM k id b hk hb (q4 b hb)⟩
        refine ⟨by simp only [argsO, RVs]; exact ⟨u, us', rfl, key.1, i1⟩, ⟨key.2.2.1, i2⟩, fun id o hid => ?_, fun c hc => ?_, by simpa [heapO] using i5, by simp [i6]⟩
        · simp only [heapO, lookN] at hid
          cases hb : Nat.beq k id
          · rw [hb] at hid
            obtain ⟨q1, q2, q3⟩ := i3 id o hid
            exact ⟨by omega, q2, q3⟩
          · rw [hb] at hid
            obtain rfl := Nat.eq_of_beq_eq_true hb
            simp only [Option.some.injEq] at hid
            subst hid
            exact ⟨Nat.le_refl _, key.2.1, v, hk, key.2.2.2⟩
        · rcases List.mem_cons.1 hc with rfl | hc
          · exact key.2.2.2
          · exact i4 c hc
      · simp at hs
    · simp at hs
theorem map_some_getD {α : Type} (l : List α) (d : α) : (l.map some).map (fun o => o.getD d) = l := by simp [Function.comp_def]
theorem RO_raw {id : Nat} {te : TypeId} {e : Ty} {xs : List e.den} (ho : RO C w g id (.arr te e xs)) : ∃ k, RO C w g id (.raw te e (xs.map some ++ List.replicate k none)) ∧ xs.length + k ≤ maxLen ∧ ∃ A n c, g.anch id = .slice A n c ∧ (A = none → c = 0) ∧ c = xs.length + k ∧ n = xs.length := by
  obtain ⟨cells, h1, h2, h3, h4⟩ := ho
  rcases h1.2 with ⟨hv, hn⟩ | ⟨blk, cap, cur, hv, _, hg, hnc, hm, hcs, htk⟩
  · have : xs = [] := List.eq_nil_of_length_eq_zero hn
    subst this
    exact ⟨0, ⟨h3, .inl ⟨hv, by simp⟩⟩, by simp, none, 0, 0, hv, by simp, by simp, by simp⟩
  · have hl : (xs.map some ++ List.replicate (cap - xs.length) none : List (Option e.den)).length = cap := by simp; omega
    refine ⟨cap - xs.length, ⟨h3, .inr ⟨blk, xs.length, cur, by rw [hl]; exact hv, hg, by rw [hl]; exact hnc, by rw [hl]; exact hm, by rw [hl]; exact hcs, ?_, h4 blk (by rw [hv]; rfl)⟩⟩, by omega, some ⟨blk, 0, none⟩, xs.length, cap, hv, by simp, by omega, rfl⟩
    have hcl := reps_len e xs cells h2
    have := rawRep_append (rawRep_some h2) (by simpa using hcl) (rawRep_none (w := w) (F := g.F) (cap - xs.length) (cur.toList.drop (xs.length * e.cells)))
    rwa [← htk, List.take_append_drop] at this
theorem oOk {P : Program} (hpin : pinsOf keep = ([], 0)) (hT : TabOk P T) (hS : SpecsOk P S) (hmix : P.follows .mixedOrders = true) {f : FuncId} {fn : Func} (hf : P.funcs[f]? = some fn) {s : OSpec}
    (hok : (match fn.body with | some c => codeOk fn.ntmps c | none => false) = true) (hn : s.args.length + 1 ≤ fn.ntmps) (hce : 0 < s.e.cells)
    (hs : ∀ (xs : List s.e.den) (ys : PDen s.args) (k : Nat), (∀ x ∈ xs, Good s.e x) → GoodR s.args ys → xs.length + k ≤ maxLen → s.pre xs ys →
      vfun T S keep fn (.vw 0 s.e 0 xs.length true :: argsO s.args ys 1) ((0, .raw s.te s.e (xs.map some ++ List.replicate k none)) :: heapO s.args ys 1) (fun v h' => readO s.te s.e v h' = some ((s.fn xs ys).map some))) : SpecOk P f s.spec := by
  refine ⟨fun C w g h fresh args vals c v news hP R hf hv hs hc => by simp [OSpec.spec] at hs, fun C w g h fresh args vals c v h' hP R hfr hv hq hc => ?_, fun C w g h fresh args vals K hP R hf hu hv hs => hs.elim, fun _ _ _ _ _ _ _ _ _ _ _ _ _ _ _ _ _ hs _ => (by cases (show (none : Option (List Prop × V × Nat × Obj)) = some _ from hs)), fun _ _ _ _ _ _ _ hs => (by cases (show (none : Option (List Prop × V × Nat × Obj)) = some _ from hs))⟩
  subst hP
  simp only [OSpec.spec, runO] at hq
  split at hq
  rotate_left
  · simp at hq
  rename_i a rest
  obtain ⟨F1, R1, e1, _⟩ := freezeAll_sound (w := w) (cellsRs s.args rest) h g R
  have hv1 : RVs C w ⟨g.anch, F1, g.U⟩ (a :: rest) vals := RVs_mono e1 _ _ hv
  revert hq
  generalize freezeAll h (cellsRs s.args rest) = h1 at R1 ⊢
  intro hq
  split at hq
  rotate_left
  · simp at hq
  rename_i xs ys os hxs hys
  split at hq
  rotate_left
  · simp at hq
  rename_i hnd
  have hnd := nodupN_nodup _ hnd
  simp only [Option.some.injEq, Prod.mk.injEq] at hq
  obtain ⟨rfl, rfl, rfl⟩ := hq
  have hpre : s.pre xs ys := hc _ (by simp)
  simp only [RVs] at hv1
  obtain ⟨av, us, rfl, ha, hus⟩ := hv1
  let OS := a :: os
  let g1 : Gh := ⟨g.anch, F1, g.U⟩
  let M' : Nat → Prop := fun b => ∃ (k i : Nat), OS[k]? = some (.own i) ∧ ablk (g.anch i) = some b
  let C' : Cx := ⟨C.P, w, M', F1, ([], 0), fun _ => undef, C.lw, C.lK⟩
  let g0 : Gh := ⟨oAnch g1 OS, F1, fun k => k < OS.length⟩
  obtain ⟨i1, i2, i3, i4, i5, i6⟩ := readOs_sound (C' := C') R1 (g0 := g0) (OS := OS) (fun k => rfl) (fun k hk => hk) (fun b hb => hb) (fun k i b h1 h2 h3 => ⟨.inl ⟨k, i, h1, h2⟩, h3.2⟩) s.args rest ys os us 1 hys hus (fun j c hc => by
    show (a :: os)[1 + j]? = some c
    rw [Nat.add_comm]; simpa using hc)
  have hul := RVs_len hus
  -- what stands behind a name
  have hOSall : ∀ c ∈ OS, c = .nil ∨ ∃ i te e zs, c = .own i ∧ lookN h1 i = some (.arr te e zs) := fun c hc => by
    rcases List.mem_cons.1 hc with rfl | hc
    · rcases ownL_out hxs with ⟨h, _⟩ | ⟨id, h, h'⟩
      · exact .inl h
      · exact .inr ⟨id, _, _, _, h, h'⟩
    · exact i4 c hc
  have hOSobj : ∀ (k i : Nat), OS[k]? = some (.own i) → ∃ o, lookN h1 i = some o ∧ o.mut = true := fun k i hk => by
    rcases hOSall _ (List.mem_iff_getElem?.2 ⟨k, hk⟩) with h | ⟨i', te, e, zs, h, h'⟩
    · cases h
    · cases h; exact ⟨_, h', rfl⟩
  have hMb : ∀ b, M' b → b < w.heap.size ∧ MutOk C g1 b := fun b ⟨k, i, h2, h3⟩ => by
    obtain ⟨o, q1, q2⟩ := hOSobj k i h2
    exact RO_block (R1.obj i o q1).2 q2 h3
  have hKK : ∀ b, C.K b → C'.K b := fun b hb => ⟨Nat.lt_of_lt_of_le hb.1 R.size, fun hm => by
    rcases (hMb b hm).2.1 with h1 | h1
    · exact hb.2 h1
    · have := hb.1; omega⟩
  -- the slice that is handed over first
  obtain ⟨k, hmax, hraw, A, n, c0, hav, hA, hc0, hn0, hgood⟩ : ∃ k, xs.length + k ≤ maxLen ∧ RO C' w g0 0 (.raw s.te s.e (xs.map some ++ List.replicate k none)) ∧ ∃ A n c, av = .slice A n c ∧ (A = none → c = 0) ∧ c = xs.length + k ∧ n = xs.length ∧ (∀ x ∈ xs, Good s.e x) := by
    have h0a : g0.anch 0 = oAnch g1 OS 0 := rfl
    rcases ownL_out hxs with ⟨hnil, hx0⟩ | ⟨id, hid, hl⟩
    · subst hx0
      rw [hnil] at ha
      simp only [RV] at ha
      refine ⟨0, by simp, ⟨hce, .inl ⟨?_, by simp⟩⟩, none, 0, 0, ha, fun _ => rfl, rfl, rfl, fun x hx => by simp at hx⟩
      rw [h0a]
      show (match (a :: os)[0]? with | some (.own id) => g1.anch id | _ => .slice none 0 0) = _
      simp [hnil]
    · have hO := (R1.obj id _ hl).2
      obtain ⟨k, hraw, hmax, A, n, c0, e2, e3, e4, e5⟩ := RO_raw hO
      rw [hid] at ha
      simp only [RV] at ha
      have ha0 : g0.anch 0 = g.anch id := by
        rw [h0a]
        show (match (a :: os)[0]? with | some (.own id) => g1.anch id | _ => .slice none 0 0) = _
        simp [hid, g1]
      refine ⟨k, hmax, ?_, A, n, c0, ha.2.1.trans e2, e3, e4, e5, (arr_good hO).2⟩
      obtain ⟨p0, ⟨r1, r2⟩ | ⟨blk, m, cur, r1, r2, r3, r4, r5, r6, r7⟩⟩ := hraw
      · exact ⟨p0, .inl ⟨ha0.trans r1, r2⟩⟩
      · refine ⟨p0, .inr ⟨blk, m, cur, ha0.trans r1, r2, r3, r4, r5, r6, .inl ⟨0, id, by show (a :: os)[0]? = _; simp [hid], ?_⟩, r7.2⟩⟩
        have r1' : g.anch id = .slice (some ⟨blk, 0, none⟩) m _ := r1
        rw [r1']; rfl
  have R2 : RelH C' ((0, .raw s.te s.e (xs.map some ++ List.replicate k none)) :: heapO s.args ys 1) w g0 := by
    have look0 : ∀ id o, lookN ((0, Obj.raw s.te s.e (xs.map some ++ List.replicate k none)) :: heapO s.args ys 1) id = some o → (id = 0 ∧ o = .raw s.te s.e (xs.map some ++ List.replicate k none)) ∨ (1 ≤ id ∧ lookN (heapO s.args ys 1) id = some o) := fun id o ho => by
      simp only [lookN] at ho
      split at ho
      · rename_i hb
        simp only [Option.some.injEq] at ho
        exact .inl ⟨(Nat.eq_of_beq_eq_true hb).symm, ho.symm⟩
      · exact .inr ⟨(i3 id o ho).1, ho⟩
    have back : ∀ id o, lookN ((0, Obj.raw s.te s.e (xs.map some ++ List.replicate k none)) :: heapO s.args ys 1) id = some o → ∀ b, ablk (g0.anch id) = some b → ∃ i, OS[id]? = some (.own i) ∧ ablk (g.anch i) = some b := fun id o ho b hb => by
      have hh : ∃ c, OS[id]? = some c := by
        rcases look0 id o ho with ⟨rfl, _⟩ | ⟨h1, h2⟩
        · exact ⟨a, rfl⟩
        · obtain ⟨_, _, c, hc, _⟩ := i3 id o h2
          exact ⟨c, hc⟩
      obtain ⟨c, hc⟩ := hh
      have hb' : ablk (oAnch g1 OS id) = some b := hb
      unfold oAnch at hb'
      rw [hc] at hb'
      rcases hOSall c (List.mem_iff_getElem?.2 ⟨id, hc⟩) with rfl | ⟨i, te, e, zs, rfl, h'⟩
      · simp [ablk] at hb'
      · exact ⟨i, hc, hb'⟩
    refine ⟨fun _ _ => rfl, Nat.le_refl _, rfl, rfl, rfl, R1.F, fun b hb => .inl hb, fun j hj => absurd hj List.not_mem_nil, ⟨fun b hb => ⟨hKK b (R.lam.1 b hb).1, (R.keep b (R.lam.1 b hb).1).trans (R.lam.1 b hb).2⟩, Nat.le_trans R.lam.2 R.size⟩, fun id o ho => ?_, fun id o id' o' b h1 h2 m1 m2 b1 b2 => ?_⟩
    · rcases look0 id o ho with ⟨rfl, rfl⟩ | ⟨h1, h2⟩
      · exact ⟨by show 0 < (a :: os).length; simp, hraw⟩
      · obtain ⟨_, q2, c, hc, _⟩ := i3 id o h2
        exact ⟨(List.getElem?_eq_some_iff.1 hc).1, q2⟩
    · obtain ⟨i, q1, q2⟩ := back id o h1 b b1
      obtain ⟨i', s1, s2⟩ := back id' o' h2 b b2
      obtain ⟨p, p1, p2⟩ := hOSobj id i q1
      obtain ⟨p', p1', p2'⟩ := hOSobj id' i' s1
      have := R1.sep i p i' p' b p1 p1' p2 p2' q2 s2
      subst this
      exact ownIds_inj OS hnd id id' i q1 s1
  have hvs : RVs C' w g0 (.vw 0 s.e 0 xs.length true :: argsO s.args ys 1) (av :: us) := by
    simp only [RVs]
    refine ⟨av, us, rfl, ?_, i1⟩
    have h0a : g0.anch 0 = av := by
      show (match (a :: os)[0]? with | some (.own id) => g1.anch id | _ => .slice none 0 0) = _
      rcases ownL_out hxs with ⟨hnil, _⟩ | ⟨id, hid, _⟩
      · rw [hnil] at ha
        simp only [RV] at ha
        simp [hnil, ha]
      · rw [hid] at ha
        simp only [RV] at ha
        simp [hid, ha.2.1, g1]
    simp only [RV]
    refine ⟨by show 0 < (a :: os).length; simp, A, n, c0, A, c0, h0a.trans hav, hA, by omega, by rw [hav, hn0], by omega, by omega, fun _ => by omega, .inr (by cases A <;> simp [Addr.add])⟩
  refine (vfun_sound (C := C') (g := g0) hpin hT hS hmix hf hok (by simp; omega) (hs xs ys k hgood i2 hmax hpre) R2 (fun id hid => by
    have h1 : id < (a :: os).length := hid
    show id < 0 + ((heapO s.args ys 1).length + 1 - 0)
    simp at h1
    omega) hvs).mono fun e w' ⟨v, h', x, g', hpost, he, R3, hx⟩ => ?_
  refine ⟨x, ?_⟩
  let FF : Nat → Prop := fun b => F1 b ∨ g'.F b
  let g2 : Gh := ⟨upd g.anch fresh x, FF, fun id => g.U id ∨ id = fresh⟩
  have hU := hfr fresh (Nat.le_refl _) (by omega)
  have hMF : ∀ b, M' b → ¬ F1 b := fun b hb => (hMb b hb).2.2
  have hFb : ∀ b, FF b → b < w'.heap.size := fun b hb => hb.elim (fun h => Nat.lt_of_lt_of_le (R1.F b h) R3.size) (R3.F b)
  have hF1 : ∀ b, g.F b → F1 b := fun b hb => (e1.F b hb).1
  have evo : Evo w g w' g2 := by
    refine ⟨fun b hb => ⟨.inl (hF1 b hb), R3.keep b ⟨R.F b hb, fun hm => hMF b hm (hF1 b hb)⟩⟩, fun id hid => ⟨.inl hid, upd_other _ _ _ (fun e => hU (e ▸ hid))⟩⟩
  have evo1 : Evo w g1 w' g2 := by
    refine ⟨fun b hb => ⟨.inl hb, R3.keep b ⟨R1.F b hb, fun hm => hMF b hm hb⟩⟩, fun id hid => ⟨.inl hid, upd_other _ _ _ (fun e => hU (e ▸ hid))⟩⟩
  have hmok : ∀ b, MutOk C' g' b → MutOk C g2 b ∧ (M' b ∨ w.heap.size ≤ b) := fun b ⟨q1, q2⟩ => by
    have hnF : ¬ F1 b := fun hF => by
      rcases q1 with q1 | q1
      · exact hMF b q1 hF
      · have := R1.F b hF; simp only [C'] at q1; omega
    refine ⟨⟨?_, fun hF => hF.elim hnF q2⟩, q1⟩
    rcases q1 with q1 | q1
    · exact (hMb b q1).2.1
    · exact .inr (Nat.le_trans R.size q1)
  have hnewO : RO C w' g2 fresh (.arr s.te s.e (s.fn xs ys)) ∧ (∃ A n c, x = .slice A n c) ∧ ∀ b, ablk x = some b → M' b ∨ w.heap.size ≤ b := by
    have hanch : g2.anch fresh = x := upd_same _ _ _
    have hlenM : ((s.fn xs ys).map some).length = (s.fn xs ys).length := by simp
    unfold readO at hpost
    split at hpost
    · -- nil
      simp only [Option.some.injEq] at hpost
      have h0 : s.fn xs ys = [] := by
        cases hq : s.fn xs ys with
        | nil => rfl
        | cons y r => rw [hq] at hpost; simp at hpost
      simp only [RV] at hx
      subst hx
      refine ⟨⟨[], ⟨by simp [h0], .inl ⟨hanch, by simp [h0]⟩⟩, by rw [h0]; rfl, hce, fun b hb => by rw [hanch] at hb; simp [ablk] at hb⟩, ⟨_, _, _, rfl⟩, fun b hb => by simp [ablk] at hb⟩
    · rename_i id
      split at hpost
      · rename_i te' e' zs ho
        split at hpost
        · rename_i zs' hbt hcast
          obtain rfl := Nat.eq_of_beq_eq_true hbt
          obtain ⟨rfl, hzs⟩ := castL_eq hcast
          simp at hzs
          subst hzs
          simp only [Option.some.injEq] at hpost
          have h0 : s.fn xs ys = zs := by
            have := congrArg (List.map (fun o => o.getD s.e.dflt)) hpost
            rw [map_some_getD, map_some_getD] at this
            exact this.symm
          simp only [RV] at hx
          obtain ⟨_, rfl, hsl⟩ := hx
          obtain ⟨cells, q1, q2, q3, q4⟩ := (R3.obj id _ ho).2
          rw [h0]
          refine ⟨⟨cells, by rw [hanch]; exact q1, reps_mono (fun b hb => ⟨.inr hb, rfl⟩) _ _ _ q2, q3, fun b hb => (hmok b (q4 b (by rw [hanch] at hb; exact hb))).1⟩, hsl, fun b hb => (hmok b (q4 b hb)).2⟩
        · simp at hpost
      · simp at hpost
    · rename_i id e0 n
      split at hpost
      · rename_i te' e' zs ho
        split at hpost
        · rename_i zs' heq hbt hcast _
          obtain rfl := Nat.eq_of_beq_eq_true hbt
          subst heq
          obtain ⟨rfl, hzs⟩ := castO_eq hcast
          simp at hzs
          subst hzs
          simp only [Option.some.injEq] at hpost
          simp only [RV] at hx
          obtain ⟨_, A2, m2, c2, A3, c3, f1, f2, f3, rfl, f4, f5, f6, f7⟩ := hx
          have f6 := f6 trivial
          rw [Nat.zero_add] at f6
          subst f6
          have hA3 : A3 = A2 := by
            rcases f7 with f7 | f7
            · omega
            · rw [f7]; cases A2 <;> simp [Addr.add]
          subst hA3
          have hO := (R3.obj id _ ho).2
          obtain ⟨rfl, _⟩ := raw_cap hO f1
          have hlen : n = (s.fn xs ys).length := by
            have := congrArg List.length hpost
            simp at this
            omega
          obtain ⟨p0, ⟨p1, p2⟩ | ⟨blk, m, cur, p1, p2, p3, p4, p5, p6, p7⟩⟩ := hO
          · rw [f1] at p1
            simp at p1
            subst p2
            obtain ⟨rfl, rfl, _⟩ := p1
            have hn0 : n = 0 := by simpa using f5
            have h0 : s.fn xs ys = [] := List.eq_nil_of_length_eq_zero (by omega)
            subst hn0
            refine ⟨⟨[], ⟨by simp [h0], .inl ⟨by rw [hanch]; simp, by simp [h0]⟩⟩, by rw [h0]; rfl, hce, fun b hb => by rw [hanch] at hb; simp [ablk] at hb⟩, ⟨_, _, _, rfl⟩, fun b hb => by simp [ablk] at hb⟩
          · rw [f1] at p1
            simp at p1
            obtain ⟨rfl, rfl⟩ := p1
            have hall : (zs.take n).all Option.isSome = true := by
              rw [hpost]; simp
            have hnx : n * s.e.cells ≤ zs.length * s.e.cells := mul_len f5
            have hr := rawRep_all (rawRep_take p6 n) (by rw [List.length_take, List.length_take, Array.length_toList, p5, Nat.min_eq_left hnx, Nat.min_eq_left f5]) hall
            rw [hpost, map_some_getD] at hr
            have hmk := hmok blk p7
            refine ⟨⟨cur.toList.take (n * s.e.cells), ⟨by rw [List.length_take, Array.length_toList, p5, Nat.min_eq_left hnx, hlen], .inr ⟨blk, zs.length, cur, by rw [hanch, hlen], Nat.zero_le _, p2, by omega, p4, p5, by rw [hlen]⟩⟩, reps_mono (fun b hb => ⟨.inr hb, rfl⟩) _ _ _ hr, hce, fun b hb => ?_⟩, ⟨_, _, _, rfl⟩, fun b hb => ?_⟩
            · rw [hanch] at hb; simp [ablk] at hb; subst hb; exact hmk.1
            · simp [ablk] at hb; subst hb; exact hmk.2
        · simp at hpost
      · simp at hpost
    · simp at hpost
  have hold2 : ∀ id o, lookN (delAll (ownIds (a :: os)) h1) id = some o → lookN h1 id = some o ∧ id ∉ ownIds OS := fun id o ho => by
    rw [delAll_look] at ho
    split at ho
    · simp at ho
    · rename_i hni
      exact ⟨ho, hni⟩
  have holdO : ∀ id o, lookN (delAll (ownIds (a :: os)) h1) id = some o → g.U id ∧ RO C w' g2 id o ∧ ∀ b, o.mut = true → ablk (g.anch id) = some b → b < w.heap.size ∧ ¬ M' b := fun id o ho => by
    obtain ⟨ho, hni⟩ := hold2 id o ho
    obtain ⟨q1, q2⟩ := R1.obj id o ho
    have hb0 : ∀ b, o.mut = true → ablk (g.anch id) = some b → b < w.heap.size ∧ ¬ M' b := fun b hm hb => ⟨(RO_block q2 hm hb).1, fun ⟨k, i, h5, h6⟩ => by
      obtain ⟨p, p1, p2⟩ := hOSobj k i h5
      have := R1.sep id o i p b ho p1 hm p2 hb h6
      subst this
      exact hni ((mem_ownIds _ _).2 (List.mem_iff_getElem?.2 ⟨k, h5⟩))⟩
    refine ⟨q1, RO_mono q1 q2 evo1 (fun b hm hb => ?_), hb0⟩
    obtain ⟨k1, k2⟩ := hb0 b hm hb
    refine ⟨R3.keep b ⟨k1, k2⟩, fun hF => ?_⟩
    rcases hF with hF | hF
    · exact (RO_block q2 hm hb).2.2 hF
    · rcases R3.Fin b hF with h3 | h3 | h3
      · exact (RO_block q2 hm hb).2.2 h3
      · exact k2 h3
      · simp only [C'] at h3; omega
  have look : ∀ k o, lookN ((fresh, Obj.arr s.te s.e (s.fn xs ys)) :: delAll (ownIds (a :: os)) h1) k = some o → (k = fresh ∧ o = .arr s.te s.e (s.fn xs ys)) ∨ (k ≠ fresh ∧ lookN (delAll (ownIds (a :: os)) h1) k = some o) := fun k o hk => by
    simp only [lookN] at hk
    cases hb : Nat.beq fresh k
    · rw [hb] at hk
      exact .inr ⟨fun e => by subst e; simp at hb, hk⟩
    · rw [hb] at hk
      simp only [Option.some.injEq] at hk
      exact .inl ⟨(Nat.eq_of_beq_eq_true hb).symm, hk.symm⟩
  refine ⟨g2, he, ⟨⟨fun b hb => (R3.keep b (hKK b hb)).trans (R.keep b hb), Nat.le_trans R.size R3.size, R3.os.trans R.os, R3.tape.trans R.tape, R3.output.trans R.output, hFb, fun b hb => ?_, evo.pin R.pin, R.lam, fun k o hk => ?_, fun k1 o1 k2 o2 b hk1 hk2 hm1 hm2 hb1 hb2 => ?_⟩, evo, ?_, fun id hid => ?_⟩⟩
  · rcases hb with hb | hb
    · exact R1.Fin b hb
    · rcases R3.Fin b hb with h3 | h3 | h3
      · exact R1.Fin b h3
      · exact .inr (hMb b h3).2.1
      · exact .inr (.inr (Nat.le_trans R.size h3))
  · rcases look k o hk with ⟨rfl, rfl⟩ | ⟨h3, h4⟩
    · exact ⟨.inr rfl, hnewO.1⟩
    · obtain ⟨q1, q2, _⟩ := holdO k o h4
      exact ⟨.inl q1, q2⟩
  · have anO : ∀ (k : Nat) (o : Obj), k ≠ fresh → g2.anch k = g.anch k := fun k o hk => upd_other _ _ _ hk
    have anN : g2.anch fresh = x := upd_same _ _ _
    rcases look k1 o1 hk1 with ⟨rfl, rfl⟩ | ⟨a1, a2⟩ <;> rcases look k2 o2 hk2 with ⟨rfl, rfl⟩ | ⟨b1, b2⟩
    · rfl
    · exfalso
      rw [anO k2 o2 b1] at hb2
      rw [anN] at hb1
      obtain ⟨_, _, q⟩ := holdO k2 o2 b2
      obtain ⟨q3, q4⟩ := q b hm2 hb2
      rcases hnewO.2.2 b hb1 with h5 | h5
      · exact q4 h5
      · omega
    · exfalso
      rw [anO k1 o1 a1] at hb1
      rw [anN] at hb2
      obtain ⟨_, _, q⟩ := holdO k1 o1 a2
      obtain ⟨q3, q4⟩ := q b hm1 hb1
      rcases hnewO.2.2 b hb2 with h5 | h5
      · exact q4 h5
      · omega
    · rw [anO k1 o1 a1] at hb1
      rw [anO k2 o2 b1] at hb2
      exact R1.sep k1 o1 k2 o2 b (hold2 _ _ a2).1 (hold2 _ _ b2).1 hm1 hm2 hb1 hb2
  · simp only [RV]
    exact ⟨.inr rfl, (upd_same _ _ _).symm, hnewO.2.1⟩
  · rcases hid with hid | rfl
    · exact .inl hid
    · exact .inr ⟨Nat.le_refl _, by omega⟩
end
section
variable {α : Type} {xs : List α} {k lo n : Nat}
theorem raw_take (h : n ≤ xs.length) : (xs.map some ++ List.replicate k none).take n = (xs.take n).map some := by
  rw [List.take_append_of_le_length (by simpa using h), List.map_take]
theorem raw_cut (h : lo + n ≤ xs.length) : ((xs.map some ++ List.replicate k none).drop lo).take n = ((xs.drop lo).take n).map some := by
  rw [List.drop_append_of_le_length (by simp; omega), List.take_append_of_le_length (by simp; omega), List.map_take, List.map_drop]
theorem toNat_add' (a b : Nat) : ((a : Int) + (b : Int)).toNat = a + b := by omega
theorem toNat_addsub (a b c : Nat) : ((a : Int) + (b : Int) - (c : Int)).toNat = a + b - c := by omega
theorem toNat_subadd (a b c : Nat) : ((a : Int) - ((b : Int) + (c : Int))).toNat = a - (b + c) := by omega
theorem raw_all {ys : List α} : ((ys.map some).all Option.isSome) = true := by simp
theorem decEq_self' (e : Ty) : decEq e e = isTrue rfl := by
  cases decEq e e with
  | isTrue h => rfl
  | isFalse h => exact absurd rfl h
theorem readO_vw {te : TypeId} {e : Ty} {id n : Nat} {ys : List (Option e.den)} {h : Heap} : readO te e (.vw id e 0 n true) ((id, .raw te e ys) :: h) = some (ys.take n) := by
  simp [readO, lookN, castO, decEq_self']
theorem raw_get {i : Nat} (h : i < xs.length) : (xs.map some ++ List.replicate k none).getD i none = xs[i]? := by
  rw [List.getD_eq_getElem?_getD, List.getElem?_append_left (by simpa using h)]
  simp [List.getElem?_eq_getElem h]
end
section
variable {α : Type} {P Q V xs vs : List α} {k c n m i : Nat} {z : α}
end
section
variable {k : Ty} {α : Type} {a b : k.den} {d v : α}
end
end Go.Eng

set_option linter.unusedVariables false
set_option linter.unusedSimpArgs false
namespace Go.Eng
end Go.Eng

set_option linter.unusedVariables false
set_option linter.unusedSimpArgs false
namespace Go.Eng
open Go.RowKit (Below)
section
variable {C C' : Cx} {w w' : World} {g g' : Gh} {h : Heap} {T : Tab} {S : Specs} {N n : Nat} {keep : List (Nat × List Nat)}
theorem closed {fresh : Nat} {x : Value} {id : Nat} {e0 te e : _} {n : Nat} {xs : List (Option (Ty.den e))} (W : WRes C w g fresh (.vw id e0 0 n true) h x w' g') (h7 : ∀ id, g'.U id → g.U id ∨ (fresh ≤ id ∧ id < fresh + 7)) (hf : FreshIds g fresh)
    (ho : lookN h id = some (.raw te e xs)) (hall : (xs.take n).all Option.isSome = true) :
    ∃ g2, WRes C w g fresh (.own (fresh + 7)) ((fresh + 7, .arr te e ((xs.take n).map fun r => r.getD e.dflt)) :: delObj h id) x w' g2 := by
  have hU : ¬ g'.U (fresh + 7) := fun hc => by
    rcases h7 _ hc with h1 | h1
    · exact hf _ (by omega) (by omega) h1
    · omega
  have hv := W.val
  simp only [RV] at hv
  obtain ⟨hUi, A2, m2, c2, A3, c3, f1, f2, f3, rfl, f4, f5, f6, f7⟩ := hv
  have f6 := f6 trivial
  rw [Nat.zero_add] at f6
  subst f6
  have hA3 : A3 = A2 := by
    rcases f7 with f7 | f7
    · omega
    · rw [f7]; cases A2 <;> simp [Addr.add]
  subst hA3
  have hO := (W.rel.obj id _ ho).2
  obtain ⟨hcx, _⟩ := raw_cap hO f1
  let g2 : Gh := ⟨upd g'.anch (fresh + 7) (.slice A3 n c3), g'.F, fun k => g'.U k ∨ k = fresh + 7⟩
  have hanch : g2.anch (fresh + 7) = .slice A3 n c3 := upd_same _ _ _
  have hold : ∀ k, k ≠ fresh + 7 → g2.anch k = g'.anch k := fun k hk => upd_other _ _ _ hk
  have evo : Evo w' g' w' g2 := ⟨fun b hb => ⟨hb, rfl⟩, fun k hk => ⟨.inl hk, hold k (fun hc => hU (hc ▸ hk))⟩⟩
  have hlen : ((xs.take n).map fun r => r.getD e.dflt).length = n := by simp; omega
  have hblk : ∀ b, ablk (.slice A3 n c3) = some b → ablk (g'.anch id) = some b := fun b hb => by rw [f1]; cases A3 <;> first | exact hb | simp [ablk] at hb
  have hnew : RO C w' g2 (fresh + 7) (.arr te e ((xs.take n).map fun r => r.getD e.dflt)) := by
    obtain ⟨p0, ⟨p1, p2⟩ | ⟨blk, m, cur, p1, p2, p3, p4, p5, p6, p7⟩⟩ := hO
    · rw [f1] at p1
      simp at p1
      subst p2
      obtain ⟨rfl, rfl, rfl⟩ := p1
      have hn0 : n = 0 := by omega
      subst hn0
      exact ⟨[], ⟨by simp, .inl ⟨hanch, by simp⟩⟩, by simp [reps], p0, fun b hb => by rw [hanch] at hb; simp [ablk] at hb⟩
    · rw [f1] at p1
      simp at p1
      obtain ⟨rfl, rfl, hc3⟩ := p1
      have hnx : n * e.cells ≤ xs.length * e.cells := mul_len (by omega)
      have hr := rawRep_all (rawRep_take p6 n) (by rw [List.length_take, List.length_take, Array.length_toList, p5, Nat.min_eq_left hnx, Nat.min_eq_left (by omega)]) hall
      exact ⟨cur.toList.take (n * e.cells), ⟨by rw [List.length_take, Array.length_toList, p5, Nat.min_eq_left hnx, hlen], .inr ⟨blk, xs.length, cur, by rw [hanch, hlen, hc3], Nat.zero_le _, p2, by omega, p4, p5, by rw [hlen]⟩⟩, hr, p0, fun b hb => by
        rw [hanch] at hb; simp [ablk] at hb; subst hb; exact p7⟩
  have look : ∀ k o, lookN ((fresh + 7, Obj.arr te e ((xs.take n).map fun r => r.getD e.dflt)) :: delObj h id) k = some o → (k = fresh + 7 ∧ o = .arr te e ((xs.take n).map fun r => r.getD e.dflt)) ∨ (k ≠ fresh + 7 ∧ k ≠ id ∧ lookN h k = some o) := fun k o hk => by
    simp only [lookN] at hk
    cases hb : Nat.beq (fresh + 7) k
    · rw [hb] at hk
      have hk : lookN (delObj h id) k = some o := hk
      rw [lookN_delObj] at hk
      by_cases hid : k = id
      · rw [if_pos hid] at hk; cases hk
      · rw [if_neg hid] at hk
        exact .inr ⟨fun hc => by subst hc; simp at hb, hid, hk⟩
    · rw [hb] at hk
      simp only [Option.some.injEq] at hk
      exact .inl ⟨(Nat.eq_of_beq_eq_true hb).symm, hk.symm⟩
  refine ⟨g2, ⟨⟨W.rel.keep, W.rel.size, W.rel.os, W.rel.tape, W.rel.output, W.rel.F, W.rel.Fin, evo.pin W.rel.pin, W.rel.lam, fun k o hk => ?_, fun k1 o1 k2 o2 b h1 h2 m1 m2 b1 b2 => ?_⟩, ?_, ?_, fun k hk => ?_⟩⟩
  · rcases look k o hk with ⟨rfl, rfl⟩ | ⟨h3, h4, h5⟩
    · exact ⟨.inr rfl, hnew⟩
    · obtain ⟨q1, q2⟩ := W.rel.obj k o h5
      exact ⟨.inl q1, RO_mono q1 q2 evo (fun b hm hb => ⟨rfl, (RO_block q2 hm hb).2.2⟩)⟩
  · rcases look k1 o1 h1 with ⟨rfl, rfl⟩ | ⟨a1, a2, a3⟩ <;> rcases look k2 o2 h2 with ⟨rfl, rfl⟩ | ⟨c1, c2, c3⟩
    · rfl
    · exfalso
      rw [hanch] at b1
      rw [hold _ c1] at b2
      exact c2 (W.rel.sep _ _ _ _ b ho c3 rfl m2 (hblk b b1) b2).symm
    · exfalso
      rw [hanch] at b2
      rw [hold _ a1] at b1
      exact a2 (W.rel.sep _ _ _ _ b a3 ho m1 rfl b1 (hblk b b2))
    · rw [hold _ a1] at b1
      rw [hold _ c1] at b2
      exact W.rel.sep _ _ _ _ b a3 c3 m1 m2 b1 b2
  · exact ⟨fun b hb => ⟨(W.evo.F b hb).1, (W.evo.F b hb).2⟩, fun k hk => ⟨.inl (W.evo.A k hk).1, (hold k (fun hc => hU (hc ▸ (W.evo.A k hk).1))).trans (W.evo.A k hk).2⟩⟩
  · simp only [RV]
    exact ⟨.inr rfl, hanch.symm, _, _, _, rfl⟩
  · rcases hk with hk | rfl
    · exact W.U k hk
    · exact .inr ⟨by omega, by omega⟩
end
end Go.Eng

set_option linter.unusedVariables false
set_option linter.unusedSimpArgs false
namespace Go.Eng
theorem getD_mem {α : Type} {xs : List α} {i : Nat} (d : α) (h : i < xs.length) : xs.getD i d ∈ xs := by
  rw [List.getD_eq_getElem?_getD, List.getElem?_eq_getElem h]
  exact List.getElem_mem h
theorem raw_getD {α : Type} {xs : List α} {k i : Nat} (d : α) (h : i < xs.length) : (xs.map some ++ List.replicate k none).getD i none = some (xs.getD i d) := by
  rw [raw_get h, List.getD_eq_getElem?_getD, List.getElem?_eq_getElem h]; rfl
structure DF {α : Type} (p : α → Bool) (xs : List α) (k : Nat) (zs : List (Option α)) (i j : Nat) : Prop where
  len : zs.length = xs.length + k
  cnt : i = ((xs.take j).filter (fun x => !p x)).length
  lt : i < j
  le : j ≤ xs.length
  front : zs.take i = ((xs.take j).filter (fun x => !p x)).map some
  rest : zs.drop j = (xs.map some ++ List.replicate k none).drop j
section
variable {α : Type} {p : α → Bool} {xs : List α} {k : Nat} {zs : List (Option α)} {i j : Nat}
theorem DF.get (d : α) (D : DF p xs k zs i j) (h : j < xs.length) : zs.getD j none = some (xs.getD j d) := by
  have := congrArg (fun l => l[0]?) D.rest
  simp only [List.getElem?_drop, Nat.add_zero] at this
  rw [List.getD_eq_getElem?_getD, this, ← List.getD_eq_getElem?_getD, raw_getD d h]
theorem DF.next (d : α) (D : DF p xs k zs i j) (h : j < xs.length) (hp : p (xs.getD j d) = true) : DF p xs k zs i (j + 1) := by
  have hf : (xs.take (j + 1)).filter (fun x => !p x) = (xs.take j).filter (fun x => !p x) := by
    rw [take_at d h, List.filter_append, List.filter_cons, hp]; simp
  exact ⟨D.len, by rw [hf]; exact D.cnt, by have := D.lt; omega, by omega, by rw [hf]; exact D.front, by
    have := congrArg (List.drop 1) D.rest
    rwa [List.drop_drop, List.drop_drop] at this⟩
theorem DF.keep (d : α) (D : DF p xs k zs i j) (h : j < xs.length) (hp : p (xs.getD j d) = false) : DF p xs k (zs.set i (some (xs.getD j d))) (i + 1) (j + 1) := by
  have hf : (xs.take (j + 1)).filter (fun x => !p x) = (xs.take j).filter (fun x => !p x) ++ [xs.getD j d] := by
    rw [take_at d h, List.filter_append, List.filter_cons, hp]; rfl
  have h1 := D.lt
  have h2 := D.len
  exact ⟨by rw [List.length_set]; exact D.len, by rw [hf, List.length_append, ← D.cnt]; rfl, by omega, by omega, by
    rw [hf, List.map_append, ← D.front, List.take_set, List.take_add_one, List.set_append_right _ _ (by rw [List.length_take]; omega)]
    congr 1
    rw [List.getElem?_eq_getElem (by omega), List.length_take, Nat.min_eq_left (by omega), Nat.sub_self]; rfl, by
    rw [List.drop_set_of_lt (by omega)]
    have := congrArg (List.drop 1) D.rest
    rwa [List.drop_drop, List.drop_drop] at this⟩
theorem DF.end (D : DF p xs k zs i j) (h : xs.length ≤ j) {r : List (Option α)} : (zs.take i ++ r).take i = (xs.filter (fun x => !p x)).map some := by
  rw [List.take_append_of_le_length (by rw [List.length_take]; have := D.len; have := D.lt; have := D.le; omega), List.take_take, Nat.min_self, D.front, List.take_of_length_le h]
end
end Go.Eng

set_option linter.unusedVariables false
set_option linter.unusedSimpArgs false
namespace Go.Eng
theorem sless_eq : ∀ (x y : List UInt8), sless x y = decide (x < y)
  | [], [] => by simp [sless, Op.bytesLess]
  | _ :: _, [] => by simp [sless, Op.bytesLess]
  | [], _ :: _ => by simp [sless, Op.bytesLess]
  | a :: x, b :: y => by
    have ih := sless_eq x y
    unfold sless at ih ⊢
    rw [Op.bytesLess, ih]
    simp only [List.cons_lt_cons_iff]
    by_cases h1 : a < b <;> by_cases h2 : a = b <;> by_cases h3 : x < y <;> simp [h1, h2, h3]
theorem sless_iff {x y : List UInt8} : sless x y = true ↔ x < y := by rw [sless_eq, decide_eq_true_iff]
theorem slt_irrefl (x : List UInt8) : ¬ x < x := List.lt_irrefl x
theorem slt_trans {x y z : List UInt8} (h : x < y) (k : y < z) : x < z := List.lt_trans h k
theorem slt_total {x y : List UInt8} (h : ¬ x < y) (k : ¬ y < x) : x = y := List.le_antisymm (List.not_lt.1 k) (List.not_lt.1 h)
theorem slt_asymm {x y : List UInt8} (h : x < y) : ¬ y < x := fun k => slt_irrefl x (slt_trans h k)
end Go.Eng

set_option linter.unusedVariables false
set_option linter.unusedSimpArgs false
namespace Go.Eng
theorem wrapU8 (n : Int) : IntKind.u8.wrap n = n % 256 := by
  simp [IntKind.wrap, IntKind.bits, IntKind.signed]
end Go.Eng
