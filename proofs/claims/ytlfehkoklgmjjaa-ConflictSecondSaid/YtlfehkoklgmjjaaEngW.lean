import Derived.Test.YtlfehkoklgmjjaaEngU
/- A callee's body in place of its call. -/
set_option linter.unusedVariables false
set_option linter.unusedSimpArgs false
namespace Go.Eng
open Go.RowKit (Below)

section
variable {C C' : Cx} {w w' : World} {g g' : Gh} {h : Heap} {T : Tab} {S : Specs} {N n : Nat} {keep : List (Nat × List Nat)}
/-! A relation does not hang on what the caller's context says of blocks. -/
mutual
theorem RV_cx (hP : C'.P = C.P) (h1 : C'.lw = C.lw) (h2 : C'.lK = C.lK) : ∀ (v : V) (x : Value), RV C w g v x → RV C' w g v x
  | .any, _, _ => by simp [RV]
  | .bl _, _, hv => by simp only [RV] at hv ⊢; exact hv
  | .b _, _, hv => by simp only [RV] at hv ⊢; exact hv
  | .i _ _, _, hv => by simp only [RV] at hv ⊢; exact hv
  | .s _, _, hv => by simp only [RV] at hv ⊢; exact hv
  | .sl e xs, v, hv => by simp only [RV] at hv ⊢; exact hv
  | .nil, _, hv => by simp only [RV] at hv ⊢; exact hv
  | .np, _, hv => by simp only [RV] at hv ⊢; exact hv
  | .nf, _, hv => by simp only [RV] at hv ⊢; exact hv
  | .nm, _, hv => by simp only [RV] at hv ⊢; exact hv
  | .own id, _, hv => by simp only [RV] at hv ⊢; exact hv
  | .ptr id col, _, hv => by simp only [RV] at hv ⊢; exact hv
  | .ep id e r c, _, hv => by simp only [RV] at hv ⊢; exact hv
  | .mp id, _, hv => by simp only [RV] at hv ⊢; exact hv
  | .vw id e lo n fl, _, hv => by simp only [RV] at hv ⊢; exact hv
  | .lam a b p, _, hv => by simp only [RV] at hv ⊢; rw [hP, h1, h2]; exact hv
  | .fn f cs, v, hv => by
    simp only [RV] at hv ⊢
    obtain ⟨vs, q1, q2⟩ := hv
    exact ⟨vs, q1, RVs_cx hP h1 h2 cs vs q2⟩
  | .agg cs, v, hv => by
    simp only [RV] at hv ⊢
    obtain ⟨vs, q1, q2⟩ := hv
    exact ⟨vs, q1, RVs_cx hP h1 h2 cs vs q2⟩
  | .tup cs, v, hv => by
    simp only [RV] at hv ⊢
    obtain ⟨vs, q1, q2⟩ := hv
    exact ⟨vs, q1, RVs_cx hP h1 h2 cs vs q2⟩
  | .rp cs, v, hv => by
    simp only [RV] at hv ⊢
    obtain ⟨a, vs, q1, q2, q3, q4⟩ := hv
    exact ⟨a, vs, q1, q2, q3, RVs_cx hP h1 h2 cs vs q4⟩
theorem RVs_cx (hP : C'.P = C.P) (h1 : C'.lw = C.lw) (h2 : C'.lK = C.lK) : ∀ (cs : List V) (vs : List Value), RVs C w g cs vs → RVs C' w g cs vs
  | [], _, hv => by simp only [RVs] at hv ⊢; exact hv
  | c :: cs, _, hv => by
    simp only [RVs] at hv ⊢
    obtain ⟨x, xs, q1, q2, q3⟩ := hv
    exact ⟨x, xs, q1, RV_cx hP h1 h2 c x q2, RVs_cx hP h1 h2 cs xs q3⟩
end
theorem RO_cx (hP : C'.P = C.P) (h1 : C'.lw = C.lw) (h2 : C'.lK = C.lK) {id : Nat} {o : Obj} (hm : ∀ b, o.mut = true → ablk (g.anch id) = some b → MutOk C g b → MutOk C' g b) (ho : RO C w g id o) : RO C' w g id o := by
  cases o with
  | box cs =>
    obtain ⟨blk, vs, te, q1, q2, q3, q4, q5⟩ := ho
    exact ⟨blk, vs, te, q1, q2, RVs_cx hP h1 h2 _ _ q3, q4, hm blk rfl (by rw [q1]; rfl) q5⟩
  | arr te e xs =>
    obtain ⟨cells, q1, q2, q3, q4⟩ := ho
    exact ⟨cells, q1, q2, q3, fun b hb => hm b rfl hb (q4 b hb)⟩
  | ice e xs => exact ho
  | map a b l =>
    obtain ⟨blk, es, clock, q1, q2, q3, q4⟩ := ho
    exact ⟨blk, es, clock, q1, q2, q3, hm blk rfl (by rw [q1]; rfl) q4⟩
  | raw te e xs =>
    obtain ⟨q0, q1 | ⟨blk, m, cur, q1, q2, q3, q4, q5, q6, q7⟩⟩ := ho
    · exact ⟨q0, .inl q1⟩
    · exact ⟨q0, .inr ⟨blk, m, cur, q1, q2, q3, q4, q5, q6, hm blk rfl (by rw [q1]; rfl) q7⟩⟩

theorem keysH_look : ∀ (h : Heap) (id : Nat), (∃ o, lookN h id = some o) ↔ id ∈ keysH h
  | [], id => by simp [keysH, lookN]
  | (k, o) :: r, id => by
    simp only [keysH, lookN, List.mem_cons]
    cases hb : Nat.beq k id
    · have hne : ¬ id = k := fun e => by subst e; simp at hb
      simp only [hne, false_or]
      exact keysH_look r id
    · obtain rfl := Nat.eq_of_beq_eq_true hb
      simp
theorem idNames_mem : ∀ (l : List Nat) (a b : Nat), (a, b) ∈ idNames l ↔ a = b ∧ a ∈ l
  | [], a, b => by simp [idNames]
  | n :: r, a, b => by
    simp only [idNames, List.mem_cons, Prod.mk.injEq, idNames_mem r a b]
    constructor
    · rintro (⟨rfl, rfl⟩ | ⟨rfl, h⟩)
      · exact ⟨rfl, .inl rfl⟩
      · exact ⟨rfl, .inr h⟩
    · rintro ⟨rfl, rfl | h⟩
      · exact .inl ⟨rfl, rfl⟩
      · exact .inr ⟨rfl, h⟩
theorem idNames_snd : ∀ (l : List Nat), (idNames l).map (·.2) = l
  | [] => rfl
  | n :: r => by simp [idNames, idNames_snd r]
theorem okKeys_out {ks : List Nat} {fresh : Nat} : ∀ (l : List Nat), okKeys ks fresh l = true → ∀ k ∈ l, k ∈ ks ∨ (fresh ≤ k ∧ k < fresh + 7)
  | [], _, k, h => by simp at h
  | a :: r, hs, k, h => by
    simp only [okKeys] at hs
    split at hs
    · rename_i hm
      rcases List.mem_cons.1 h with rfl | h
      · exact .inl ((memN_iff _ _).1 hm)
      · exact okKeys_out r hs k h
    · split at hs
      · rename_i hb
        simp only [Bool.and_eq_true] at hb
        rcases List.mem_cons.1 h with rfl | h
        · exact .inr ⟨Nat.le_of_ble_eq_true hb.1, Nat.le_of_ble_eq_true hb.2⟩
        · exact okKeys_out r hs k h
      · cases hs
/-- What is kept under its names. -/
theorem RelH.names {ks : List Nat} (hnd : ks.Nodup) (R : RelH C h w g) (hp : ∀ j ∈ C.pins.1, j ∈ ks) : RelH C (renHeap (idNames ks) h (idNames ks)) w (gren g (idNames ks)) := by
  have hnd' : ((idNames ks).map (·.2)).Nodup := by rw [idNames_snd]; exact hnd
  refine ⟨R.keep, R.size, R.os, R.tape, R.output, R.F, R.Fin, fun j hj => ?_, R.lam, fun j o hj => ?_, ?_⟩
  · have hm : (j, j) ∈ idNames ks := (idNames_mem _ _ _).2 ⟨rfl, hp j hj⟩
    exact ⟨⟨j, hm⟩, by rw [(gren_mem hnd' hm).1]; exact (R.pin j hj).2⟩
  · obtain ⟨id, o', h2, h3, h4⟩ := renHeap_look (idNames ks) h (idNames ks) j o hj
    subst h4
    exact ⟨⟨id, h2⟩, renObj_rel hnd' h2 (R.obj id o' h3).2⟩
  · intro j1 o1 j2 o2 b hj1 hj2 hm1 hm2 hb1 hb2
    obtain ⟨id1, p1, q2, q3, q4⟩ := renHeap_look (idNames ks) h (idNames ks) j1 o1 hj1
    obtain ⟨id2, p2, s2, s3, s4⟩ := renHeap_look (idNames ks) h (idNames ks) j2 o2 hj2
    subst q4; subst s4
    rw [renObj_mut] at hm1 hm2
    rw [(gren_mem (g := g) hnd' q2).1] at hb1
    rw [(gren_mem (g := g) hnd' s2).1] at hb2
    obtain ⟨rfl, _⟩ := (idNames_mem _ _ _).1 q2
    obtain ⟨rfl, _⟩ := (idNames_mem _ _ _).1 s2
    exact R.sep id1 p1 id2 p2 b q3 s3 hm1 hm2 hb1 hb2
theorem gren_id {ks : List Nat} (hnd : ks.Nodup) {j : Nat} (hj : j ∈ ks) : (gren g (idNames ks)).anch j = g.anch j :=
  (gren_mem (by rw [idNames_snd]; exact hnd) ((idNames_mem _ _ _).2 ⟨rfl, hj⟩)).1
theorem gren_U {ks : List Nat} {j : Nat} : (gren g (idNames ks)).U j ↔ j ∈ ks :=
  ⟨fun ⟨id, h⟩ => by obtain ⟨rfl, h1⟩ := (idNames_mem _ _ _).1 h; exact h1, fun h => ⟨j, (idNames_mem _ _ _).2 ⟨rfl, h⟩⟩⟩

theorem inl_k {P : Program} (hT : TabOk P T) (hS : SpecsOk P S) (hmix : P.follows .mixedOrders = true) {f : FuncId} {fn : Func} (hf : P.funcs[f]? = some fn)
    (hok : (match fn.body with | some c => codeOk fn.ntmps c | none => false) = true) {C : Cx} {w : World} {g : Gh} {h : Heap} {fresh : Nat} {args : List V} {vals : List Value} {K : V → Heap → Prop} (hP : C.P = P) (R : RelH C h w g) (hfr : FreshIds g fresh) (hub : ∀ id, g.U id → id < fresh) (hv : RVs C w g args vals)
    (hs : inlK T S keep fn args h fresh K) : Calls P f vals.toArray w fun e w' => ∃ x g' v h', e = .returned x ∧ K v h' ∧ WRes C w g fresh v h' x w' g' ∧ ∀ id, g'.U id → g.U id ∨ (fresh ≤ id ∧ id < fresh + 7) := by
  subst hP
  simp only [inlK] at hs
  split at hs
  rotate_left
  · exact hs.elim
  rename_i hlen
  have hlen := Nat.le_of_ble_eq_true hlen
  cases hb : fn.body with
  | none => simp [hb] at hs
  | some c =>
    simp only [hb] at hs hok
    rw [forceNs_eq] at hs
    split at hs
    · exact hs.elim
    rename_i hks
    simp only [Bool.and_eq_true] at hks
    rw [forceVs_eq, forceH_eq] at hs
    have hnd := nodupN_iff _ hks.2
    have hlt := allLt_iff _ _ hks.1
    have hkey := keysH_look h
    revert hs
    generalize hksd : keysH h = ks at hnd hlt hkey ⊢
    intro hs
    let M' : Nat → Prop := fun b => ∃ id o, lookN h id = some o ∧ o.mut = true ∧ ablk (g.anch id) = some b
    let C' : Cx := ⟨C.P, w, M', g.F, (ks, fresh), g.anch, C.lw, C.lK⟩
    have hM : ∀ b, M' b → b < w.heap.size ∧ MutOk C g b := fun b ⟨id, o, q1, q2, q3⟩ => RO_block (R.obj id o q1).2 q2 q3
    have hKK : ∀ b, C.K b → C'.K b := fun b hb => ⟨Nat.lt_of_lt_of_le hb.1 R.size, fun hm => by
      rcases (hM b hm).2.1 with h1 | h1
      · exact hb.2 h1
      · have := hb.1; omega⟩
    have R1 : RelH C' h w g := by
      refine ⟨fun _ _ => rfl, Nat.le_refl _, rfl, rfl, rfl, R.F, fun b hb => .inl hb, fun j hj => ?_, ⟨fun b hb => ⟨hKK b (R.lam.1 b hb).1, (R.keep b (R.lam.1 b hb).1).trans (R.lam.1 b hb).2⟩, Nat.le_trans R.lam.2 R.size⟩, fun id o ho => ?_, R.sep⟩
      · obtain ⟨o, ho⟩ := (hkey j).2 hj
        exact ⟨(R.obj j o ho).1, rfl⟩
      · obtain ⟨q1, q2⟩ := R.obj id o ho
        exact ⟨q1, RO_cx (C := C) (C' := C') rfl rfl rfl (fun b hm hb hmo => ⟨.inl ⟨id, o, ho, hm, hb⟩, hmo.2⟩) q2⟩
    have R2 := R1.names hnd (fun j hj => hj)
    have hnd' : ((idNames ks).map (·.2)).Nodup := by rw [idNames_snd]; exact hnd
    have hv2 : RVs C' w (gren g (idNames ks)) (renVs (idNames ks) args) vals := renVs_rel hnd' _ _ (RVs_cx (C := C) (C' := C') rfl rfl rfl _ _ hv)
    have hvl := RVs_len hv
    refine calls_of_wp hf hb ?_
    have hsz : (vals.toArray ++ Array.replicate (fn.ntmps - vals.toArray.size) undef).size = fn.ntmps := by simp; omega
    have r : RelT C' fn.ntmps ⟨paramEnv 0 (renVs (idNames ks) args), renHeap (idNames ks) h (idNames ks)⟩ { tmps := vals.toArray ++ Array.replicate (fn.ntmps - vals.toArray.size) undef, defers := [] } w (gren g (idNames ks)) := by
      refine ⟨R2, fun t v ht => ?_, fun id hid => ?_, hsz, rfl⟩
      · obtain ⟨_, h2⟩ := paramEnv_look _ 0 t v ht
        rw [Nat.sub_zero] at h2
        obtain ⟨x, h3, h4⟩ := RVs_at hv2 h2
        refine ⟨x, ?_, h4⟩
        have hlt := (List.getElem?_eq_some_iff.1 h3).1
        simp only
        rw [Array.getElem?_append_left (by simpa using hlt)]
        simpa using h3
      · have := hlt id (gren_U.1 hid)
        show id < fresh + _
        omega
    refine vc_sound (C := C') (keep := (3000000, ks) :: (3000001, [fresh]) :: keep) rfl hT hS hmix c _ _ _ w _ hok hs r _ fun e st a w' g' hk r => ?_
    -- behind the body
    have fin : ∀ (v : V) (x : Value), exitK ks fresh st.heap v K → RV C' w' g' v x → ∃ g2 v2 h2, K v2 h2 ∧ WRes C w g fresh v2 h2 x w' g2 ∧ ∀ id, g2.U id → g.U id ∨ (fresh ≤ id ∧ id < fresh + 7) := by
      intro v x hx hvx
      unfold exitK at hx
      rw [forceNs_eq] at hx
      split at hx
      rotate_left
      · exact hx.elim
      rename_i hk2
      simp only [Bool.and_eq_true] at hk2
      rw [forceV_eq, forceH_eq] at hx
      have hnd2 := nodupN_iff _ hk2.2
      have hok2 := okKeys_out _ hk2.1
      have hkey2 := keysH_look st.heap
      revert hx
      generalize keysH st.heap = ks2 at hnd2 hok2 hkey2 ⊢
      intro hx
      have hpin2 : ∀ j ∈ ks, g'.U j ∧ g'.anch j = g.anch j := fun j hj => r.H.pin j hj
      have hndn : ((idNames ks2).map (·.2)).Nodup := by rw [idNames_snd]; exact hnd2
      classical
      let FF : Nat → Prop := fun b => g.F b ∨ g'.F b
      let g2 : Gh := ⟨fun id => if id ∈ ks2 then g'.anch id else g.anch id, FF, fun id => g.U id ∨ id ∈ ks2⟩
      have hnew : ∀ id, id ∈ ks2 → g.U id → id ∈ ks := fun id h1 h2 => by
        rcases hok2 id h1 with h | h
        · exact h
        · have := hub id h2; omega
      have evo0 : Evo w g w' g2 := by
        refine ⟨fun b hb => ⟨.inl hb, ?_⟩, fun id hid => ⟨.inl hid, ?_⟩⟩
        · refine r.H.keep b ⟨R.F b hb, fun hm => (hM b hm).2.2 hb⟩
        · show (if id ∈ ks2 then g'.anch id else g.anch id) = g.anch id
          split
          · rename_i hin; exact (hpin2 id (hnew id hin hid)).2
          · rfl
      let gg := gren g' (idNames ks2)
      have evo1 : Evo w' gg w' g2 := by
        refine ⟨fun b hb => ⟨.inr hb, rfl⟩, fun id hid => ?_⟩
        have hin := gren_U.1 hid
        refine ⟨.inr hin, ?_⟩
        show (if id ∈ ks2 then g'.anch id else g.anch id) = _
        rw [if_pos hin]
        exact (gren_id hnd2 hin).symm
      have hFF : ∀ b, MutOk C' gg b → MutOk C g2 b := fun b ⟨q1, q2⟩ => by
        have hnF : ¬ g.F b := fun hF => by
          rcases q1 with q1 | q1
          · exact (hM b q1).2.2 hF
          · have := R.F b hF; simp only [C'] at q1; omega
        refine ⟨?_, fun hF => hF.elim hnF q2⟩
        rcases q1 with q1 | q1
        · exact (hM b q1).2.1
        · exact .inr (Nat.le_trans R.size q1)
      -- the heap as it is left
      have hobj : ∀ j o, lookN (renHeap (idNames ks2) st.heap (idNames ks2)) j = some o → g2.U j ∧ RO C w' g2 j o ∧ ∃ o', lookN st.heap j = some o' ∧ o'.mut = o.mut ∧ g2.anch j = g'.anch j := fun j o hj => by
        obtain ⟨id, o', h2, h3, h4⟩ := renHeap_look _ _ _ j o hj
        subst h4
        obtain ⟨rfl, hin⟩ := (idNames_mem _ _ _).1 h2
        have hO := renObj_rel (g := g') hndn h2 (r.H.obj id o' h3).2
        have hU : gg.U id := gren_U.2 hin
        have ha : g2.anch id = g'.anch id := by
          show (if id ∈ ks2 then g'.anch id else g.anch id) = _
          rw [if_pos hin]
        have ha' : gg.anch id = g'.anch id := gren_id hnd2 hin
        refine ⟨.inr hin, ?_, o', h3, (renObj_mut _ _).symm, ha⟩
        have hO2 := RO_mono (C := C') hU hO evo1 (fun b hm hb => ⟨rfl, fun hF => by
          have := RO_block hO hm hb
          exact (hFF b this.2).2 hF⟩)
        refine RO_cx (C := C') (C' := C) rfl rfl rfl (fun b hm hb _ => hFF b ?_) hO2
        have hb' : ablk (gg.anch id) = some b := by rw [ha']; rw [ha] at hb; exact hb
        exact (RO_block hO hm hb').2
      have hU7 : ∀ id, g2.U id → g.U id ∨ (fresh ≤ id ∧ id < fresh + 7) := fun id hid => by
        rcases hid with hid | hid
        · exact .inl hid
        · rcases hok2 id hid with h1 | h1
          · obtain ⟨o, ho⟩ := (hkey id).2 h1
            exact .inl (R.obj id o ho).1
          · exact .inr h1
      refine ⟨g2, _, _, hx, ⟨⟨fun b hb => ?_, Nat.le_trans R.size r.H.size, r.H.os.trans R.os, r.H.tape.trans R.tape, r.H.output.trans R.output, fun b hb => ?_, fun b hb => ?_, fun j hj => ?_, R.lam, fun j o hj => ⟨(hobj j o hj).1, (hobj j o hj).2.1⟩, fun j1 o1 j2 o2 b h1 h2 m1 m2 b1 b2 => ?_⟩, evo0, ?_, fun id hid => ?_⟩, hU7⟩
      · exact (r.H.keep b (hKK b hb)).trans (R.keep b hb)
      · exact hb.elim (fun h => Nat.lt_of_lt_of_le (R.F b h) r.H.size) (r.H.F b)
      · rcases hb with hb | hb
        · exact R.Fin b hb
        · rcases r.H.Fin b hb with h1 | h1 | h1
          · exact R.Fin b h1
          · exact .inr (hM b h1).2.1
          · exact .inr (.inr (Nat.le_trans R.size h1))
      · have h1 := R.pin j hj
        exact ⟨(evo0.A j h1.1).1, (evo0.A j h1.1).2.trans h1.2⟩
      · obtain ⟨_, _, p1, q1, q2, q3⟩ := hobj j1 o1 h1
        obtain ⟨_, _, p2, s1, s2, s3⟩ := hobj j2 o2 h2
        rw [q3] at b1
        rw [s3] at b2
        exact r.H.sep j1 p1 j2 p2 b q1 s1 (q2.trans m1) (s2.trans m2) b1 b2
      · exact RV_cx (C := C') (C' := C) rfl rfl rfl _ _ (RV_mono evo1 _ _ (renV_rel hndn v x hvx))
      · rcases hU7 id hid with h1 | h1
        · exact .inl h1
        · exact .inr ⟨h1.1, by omega⟩
    have run : ∀ vs, resVs T st fn.results.toList = some vs → ∃ xs : List Value, (results fn a.tmps).run C.P w' = .ok (if h : xs.toArray.size = 1 then xs.toArray[0] else .tuple xs.toArray) w' ∧ RVs C' w' g' vs xs := fun vs hvs => by
      obtain ⟨xs, h1, h2⟩ := resVs_sound (C := C') hT r _ _ hvs
      refine ⟨xs, ?_, h2⟩
      rw [results_eq, Array.mapM_eq_mapM_toList]
      simp only [Sem.run_bind, Sem.run_map, Result.andThen_ok, Sem.run_pure]
      have h1' : Sem.run C.P (List.mapM (resSem a.tmps) fn.results.toList) w' = .ok xs w' := h1
      simp only [h1', Result.andThen_ok]
    have all : (match resVs T st fn.results.toList with
        | none => False
        | some [v] => exitK ks fresh st.heap v K
        | some vs => exitK ks fresh st.heap (.tup vs) K) → a.defers = [] ∧ ∃ v, (results fn a.tmps).run C.P w' = .ok v w' ∧ ∃ x g' v' h', Ending.returned v = .returned x ∧ K v' h' ∧ WRes C w g fresh v' h' x w' g' ∧ ∀ id, g'.U id → g.U id ∨ (fresh ≤ id ∧ id < fresh + 7) := by
      intro hk
      refine ⟨r.df, ?_⟩
      cases hr : resVs T st fn.results.toList with
      | none => rw [hr] at hk; exact hk.elim
      | some vs =>
        rw [hr] at hk
        obtain ⟨xs, h1, h2⟩ := run vs hr
        match vs, hk, h2 with
        | [], hk, h2 =>
          simp only [RVs] at h2
          subst h2
          obtain ⟨g2, v2, h3, h4, h5⟩ := fin (.tup []) (.tuple #[]) hk (by simp [RV, RVs])
          exact ⟨_, h1, _, g2, v2, h3, rfl, h4, h5⟩
        | [v], hk, h2 =>
          simp only [RVs] at h2
          obtain ⟨x, _, rfl, h3, rfl⟩ := h2
          obtain ⟨g2, v2, h5, h6, h7⟩ := fin v x hk h3
          exact ⟨_, h1, _, g2, v2, h5, rfl, h6, by simpa using h7⟩
        | v1 :: v2 :: vs, hk, h2 =>
          have hl := RVs_len h2
          have hne : ¬ xs.toArray.size = 1 := by simp at hl ⊢; omega
          rw [dif_neg hne] at h1
          obtain ⟨g2, v3, h5, h6, h7⟩ := fin (.tup (v1 :: v2 :: vs)) (.tuple xs.toArray) hk (by simp only [RV]; exact ⟨xs, rfl, h2⟩)
          exact ⟨_, h1, _, g2, v3, h5, rfl, h6, h7⟩
    cases e with
    | normal => exact all hk
    | ret => exact all hk
    | exit id => exact hk.elim
    | goto l => exact hk.elim
theorem inl_ok {P : Program} (hT : TabOk P T) (hS : SpecsOk P S) (hmix : P.follows .mixedOrders = true) {f : FuncId} {fn : Func} (hf : P.funcs[f]? = some fn)
    (hok : (match fn.body with | some c => codeOk fn.ntmps c | none => false) = true) : SpecOk P f (inl T S keep fn) := by
  refine ⟨fun C w g h fresh args vals c v news hP R hf hv hs hc => by simp [inl] at hs, fun C w g h fresh args vals c v h' hP R hf hv hs hc => by simp [inl] at hs, fun C w g h fresh args vals K hP R hfr hub hv hs => ?_⟩
  exact (inl_k hT hS hmix hf hok hP R hfr hub hv hs).mono fun e w' ⟨x, g', v, h', h1, h2, h3, _⟩ => ⟨x, g', v, h', h1, h2, h3⟩
end
end Go.Eng
