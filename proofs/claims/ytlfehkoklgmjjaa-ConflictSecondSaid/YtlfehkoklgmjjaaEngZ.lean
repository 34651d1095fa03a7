import Derived.Test.YtlfehkoklgmjjaaEngW
/- Functions that take a slice that is one's own, and hand one back. -/
set_option linter.unusedVariables false
set_option linter.unusedSimpArgs false
namespace Go.Eng
open Go.RowKit (Below)

def argsO : (l : List RK) → PDen l → Nat → List V
  | [], _, _ => []
  | .d t :: r, x, k => vOfDen t x.1 :: argsO r x.2 k
  | .o _ _ :: r, x, k => .own k :: argsO r x.2 (k + 1)
def heapO : (l : List RK) → PDen l → Nat → Heap
  | [], _, _ => []
  | .d _ :: r, x, k => heapO r x.2 k
  | .o te e :: r, x, k => (k, .arr te e x.1) :: heapO r x.2 (k + 1)
/-- 'te', 'e': of the slice that is handed over first, and of what is handed back; the other arguments: data, or slices handed over too. -/
structure OSpec where
  te : TypeId
  e : Ty
  args : List RK
  pre : List e.den → PDen args → Prop
  fn : List e.den → PDen args → List e.den
def readOs (h : Heap) : (l : List RK) → List V → Option (PDen l × List V)
  | [], [] => some ((), [])
  | .d t :: r, v :: vs => match readArg h false (.d t) v with
    | some x => match readOs h r vs with
      | some (y, os) => some ((x, y), os)
      | none => none
    | none => none
  | .o te e :: r, v :: vs => match ownL h te e v with
    | some x => match readOs h r vs with
      | some (y, os) => some ((x, y), v :: os)
      | none => none
    | none => none
  | _, _ => none
def cellsRs : List RK → List V → List V
  | .d _ :: r, v :: vs => v.cells ++ cellsRs r vs
  | .o _ _ :: r, _ :: vs => cellsRs r vs
  | _, _ => []
def runO (s : OSpec) (args : List V) (h : Heap) (fresh : Nat) : R :=
  match args with
  | a :: rest => match ownL (freezeAll h (cellsRs s.args rest)) s.te s.e a, readOs (freezeAll h (cellsRs s.args rest)) s.args rest with
    | some xs, some (ys, os) => match nodupN (ownIds (a :: os)) with
      | true => some ([s.pre xs ys], .own fresh, (fresh, .arr s.te s.e (s.fn xs ys)) :: delAll (ownIds (a :: os)) (freezeAll h (cellsRs s.args rest)))
      | false => none
    | _, _ => none
  | [] => none
def OSpec.spec (s : OSpec) : Spec := ⟨fun _ _ _ => none, runO s, noK⟩
/-- The rows of what is handed back. -/
def readO (te : TypeId) (e : Ty) (v : V) (h : Heap) : Option (List (Option e.den)) :=
  match v with
  | .nil => some []
  | .own id => match lookN h id with
    | some (.arr te' e' xs) => match Nat.beq te te', castL e' e xs with
      | true, some xs => some (xs.map some)
      | _, _ => none
    | _ => none
  | .vw id e0 0 n true => match lookN h id with
    | some (.raw te' e' xs) => match Nat.beq te te', castO e' e xs, decEq e0 e with
      | true, some xs, isTrue _ => some (xs.take n)
      | _, _, _ => none
    | _ => none
  | _ => none

section
variable {C C' : Cx} {w w' : World} {g g' : Gh} {h : Heap} {T : Tab} {S : Specs} {N n : Nat} {keep : List (Nat × List Nat)}
theorem ownL_out {h : Heap} {te : TypeId} {e : Ty} {v : V} {xs : List e.den} (hs : ownL h te e v = some xs) : (v = .nil ∧ xs = []) ∨ ∃ id, v = .own id ∧ lookN h id = some (.arr te e xs) := by
  unfold ownL at hs
  split at hs
  · simp only [Option.some.injEq] at hs
    exact .inl ⟨rfl, hs.symm⟩
  · rename_i id
    split at hs
    · rename_i te' e' ys ho
      split at hs
      · rename_i hb
        obtain rfl := Nat.eq_of_beq_eq_true hb
        obtain ⟨rfl, hx⟩ := castL_eq hs
        simp at hx
        subst hx
        exact .inr ⟨id, rfl, ho⟩
      · simp at hs
    · simp at hs
  · simp at hs
def GoodR : (l : List RK) → PDen l → Prop
  | [], _ => True
  | .d t :: r, x => Good t x.1 ∧ GoodR r x.2
  | .o _ e :: r, x => Good (.slice e) x.1 ∧ GoodR r x.2
theorem arr_good {id : Nat} {te : TypeId} {e : Ty} {xs : List e.den} (ho : RO C w g id (.arr te e xs)) : Good (.slice e) xs := by
  obtain ⟨A, cap, cells, q⟩ := view_of_arr ho
  exact ⟨Nat.le_trans q.le q.max, fun x hx => by
    have : ∀ (xs : List e.den) (cs : List Value), reps w g.F e xs cs → ∀ x ∈ xs, Good e x := by
      intro xs
      induction xs with
      | nil => intro cs _ x h; simp at h
      | cons y r ih =>
        intro cs ⟨c, r', _, h1, h2⟩ x h
        rcases List.mem_cons.1 h with rfl | h
        · exact rep_good e _ c h1
        · exact ih r' h2 x h
    exact this xs cells q.rows x hx⟩
theorem readOs_sound (R : RelH C h w g) {g0 : Gh} {OS : List V} (hA : ∀ k, g0.anch k = oAnch g OS k) (hU : ∀ k, k < OS.length → g0.U k) (hF : ∀ b, g.F b → g0.F b)
    (hM : ∀ (k i b : Nat), OS[k]? = some (.own i) → ablk (g.anch i) = some b → MutOk C g b → MutOk C' g0 b) : ∀ (l : List RK) (vs : List V) (xs : PDen l) (os : List V) (us : List Value) (k : Nat), readOs h l vs = some (xs, os) → RVs C w g vs us →
      (∀ j c, os[j]? = some c → OS[k + j]? = some c) → RVs C' w g0 (argsO l xs k) us ∧ GoodR l xs ∧
      (∀ id o, lookN (heapO l xs k) id = some o → k ≤ id ∧ RO C' w g0 id o ∧ ∃ c, OS[id]? = some c ∧ (c = .nil ∨ ∃ i te e ys, c = .own i ∧ lookN h i = some (.arr te e ys))) ∧
      (∀ c ∈ os, c = .nil ∨ ∃ i te e ys, c = .own i ∧ lookN h i = some (.arr te e ys)) ∧ (heapO l xs k).length = os.length ∧ vs.length = l.length
  | [], [], xs, os, us, k, hs, hv, ho => by
    simp only [readOs, Option.some.injEq, Prod.mk.injEq] at hs
    obtain ⟨_, rfl⟩ := hs
    exact ⟨by simpa [argsO, RVs] using hv, trivial, fun id o h => by simp [heapO, lookN] at h, fun c h => by simp at h, rfl, rfl⟩
  | [], v :: vs, xs, os, us, k, hs, hv, ho => by simp [readOs] at hs
  | .d t :: r, [], xs, os, us, k, hs, hv, ho => by simp [readOs] at hs
  | .o te e :: r, [], xs, os, us, k, hs, hv, ho => by simp [readOs] at hs
  | .d t :: r, v :: vs, xs, os, us, k, hs, hv, ho => by
    simp only [readOs] at hs
    split at hs
    · rename_i x hx
      split at hs
      · rename_i y os' hy
        simp only [Option.some.injEq, Prod.mk.injEq] at hs
        obtain ⟨rfl, rfl⟩ := hs
        simp only [RVs] at hv
        obtain ⟨u, us', rfl, h1, h2⟩ := hv
        obtain ⟨i1, i2, i3, i4, i5, i6⟩ := readOs_sound R hA hU hF hM r vs y os' us' k hy h2 ho
        simp only [readArg] at hx
        split at hx
        · rename_i hsh
          split at hx
          · rename_i z hd
            simp only [Option.some.injEq] at hx
            subst hx
            obtain ⟨k1, k2⟩ := RV_shape hsh h1
            have hrep := toDen_all R hd (RV_cells h1 k1)
            have hrep0 : rep w g0.F t z u.cells.toList := rep_mono (fun b hb => ⟨hF b hb, rfl⟩) t z _ hrep
            have hrv : RV C' w g0 (vOfDen t z) u := RV_vOfDen t z u hrep0 k2
            exact ⟨by simp only [argsO, RVs]; exact ⟨u, us', rfl, hrv, i1⟩, ⟨vOfDen_good t z u hrv, i2⟩, fun id o h => i3 id o (by simpa [heapO] using h), i4, by simpa [heapO] using i5, by simp [i6]⟩
          · simp at hx
        · simp at hx
      · simp at hs
    · simp at hs
  | .o te e :: r, v :: vs, xs, os, us, k, hs, hv, ho => by
    simp only [readOs] at hs
    split at hs
    · rename_i x hx
      split at hs
      · rename_i y os' hy
        simp only [Option.some.injEq, Prod.mk.injEq] at hs
        obtain ⟨rfl, rfl⟩ := hs
        simp only [RVs] at hv
        obtain ⟨u, us', rfl, h1, h2⟩ := hv
        have hk : OS[k]? = some v := by simpa using ho 0 v (by simp)
        have hkl : k < OS.length := (List.getElem?_eq_some_iff.1 hk).1
        obtain ⟨i1, i2, i3, i4, i5, i6⟩ := readOs_sound R hA hU hF hM r vs y os' us' (k + 1) hy h2 (fun j c hc => by
          rw [show k + 1 + j = k + (j + 1) by omega]; exact ho (j + 1) c (by simpa using hc))
        have key : RV C' w g0 (.own k) u ∧ RO C' w g0 k (.arr te e x) ∧ Good (.slice e) x ∧ (v = .nil ∨ ∃ i te e ys, v = .own i ∧ lookN h i = some (.arr te e ys)) := by
          rcases ownL_out hx with ⟨rfl, rfl⟩ | ⟨id, rfl, hl⟩
          · have ha : g0.anch k = .slice none 0 0 := by rw [hA]; simp [oAnch, hk]
            simp only [RV] at h1
            refine ⟨by simp only [RV]; exact ⟨hU k hkl, by rw [ha, h1], none, 0, 0, h1⟩, ?_, ⟨by simp, fun y hy => by simp at hy⟩, .inl rfl⟩
            exact ⟨[], ⟨by simp, .inl ⟨ha, rfl⟩⟩, rfl, cells_pos e, fun b hb => by rw [ha] at hb; simp [ablk] at hb⟩
          · have ha : g0.anch k = g.anch id := by rw [hA]; simp [oAnch, hk]
            simp only [RV] at h1
            have hO := (R.obj id _ hl).2
            have hg := arr_good hO
            obtain ⟨cells, q1, q2, q3, q4⟩ := hO
            refine ⟨by simp only [RV]; exact ⟨hU k hkl, by rw [ha]; exact h1.2.1, h1.2.2⟩, ?_, hg, .inr ⟨id, _, _, _, rfl, hl⟩⟩
            exact ⟨cells, by rw [ha]; exact q1, reps_mono (fun b hb => ⟨hF b hb, rfl⟩) _ _ _ q2, q3, fun b hb => by
              rw [ha] at hb
              exact hM k id b hk hb (q4 b hb)⟩
        refine ⟨by simp only [argsO, RVs]; exact ⟨u, us', rfl, key.1, i1⟩, ⟨key.2.2.1, i2⟩, fun id o hid => ?_, fun c hc => ?_, by simpa [heapO] using i5, by simp [i6]⟩
        · simp only [heapO, lookN] at hid
          cases hb : Nat.beq k id
          · rw [hb] at hid
            obtain ⟨q1, q2, q3⟩ := i3 id o hid
            exact ⟨by omega, q2, q3⟩
          · rw [hb] at hid
            obtain rfl := Nat.eq_of_beq_eq_true hb
            simp only [Option.some.injEq] at hid
            subst hid
            exact ⟨Nat.le_refl _, key.2.1, v, hk, key.2.2.2⟩
        · rcases List.mem_cons.1 hc with rfl | hc
          · exact key.2.2.2
          · exact i4 c hc
      · simp at hs
    · simp at hs
theorem reps_good {F : Nat → Prop} {e : Ty} : ∀ (xs : List e.den) (cs : List Value), reps w F e xs cs → ∀ x ∈ xs, Good e x
  | [], _, _, x, h => by simp at h
  | y :: xs, _, ⟨c, r, _, h1, h2⟩, x, h => by
    rcases List.mem_cons.1 h with rfl | h
    · exact rep_good e _ c h1
    · exact reps_good xs r h2 x h

theorem map_some_getD {α : Type} (l : List α) (d : α) : (l.map some).map (fun o => o.getD d) = l := by simp [Function.comp_def]
/-- An own slice, with what room it has. -/
theorem RO_raw {id : Nat} {te : TypeId} {e : Ty} {xs : List e.den} (ho : RO C w g id (.arr te e xs)) : ∃ k, RO C w g id (.raw te e (xs.map some ++ List.replicate k none)) ∧ xs.length + k ≤ maxLen ∧ ∃ A n c, g.anch id = .slice A n c ∧ (A = none → c = 0) ∧ c = xs.length + k ∧ n = xs.length := by
  obtain ⟨cells, h1, h2, h3, h4⟩ := ho
  rcases h1.2 with ⟨hv, hn⟩ | ⟨blk, cap, cur, hv, _, hg, hnc, hm, hcs, htk⟩
  · have : xs = [] := List.eq_nil_of_length_eq_zero hn
    subst this
    exact ⟨0, ⟨h3, .inl ⟨hv, by simp⟩⟩, by simp, none, 0, 0, hv, by simp, by simp, by simp⟩
  · have hl : (xs.map some ++ List.replicate (cap - xs.length) none : List (Option e.den)).length = cap := by simp; omega
    refine ⟨cap - xs.length, ⟨h3, .inr ⟨blk, xs.length, cur, by rw [hl]; exact hv, hg, by rw [hl]; exact hnc, by rw [hl]; exact hm, by rw [hl]; exact hcs, ?_, h4 blk (by rw [hv]; rfl)⟩⟩, by omega, some ⟨blk, 0, none⟩, xs.length, cap, hv, by simp, by omega, rfl⟩
    have hcl := reps_len e xs cells h2
    have := rawRep_append (rawRep_some h2) (by simpa using hcl) (rawRep_none (w := w) (F := g.F) (cap - xs.length) (cur.toList.drop (xs.length * e.cells)))
    rwa [← htk, List.take_append_drop] at this
theorem oOk {P : Program} (hpin : pinsOf keep = ([], 0)) (hT : TabOk P T) (hS : SpecsOk P S) (hmix : P.follows .mixedOrders = true) {f : FuncId} {fn : Func} (hf : P.funcs[f]? = some fn) {s : OSpec}
    (hok : (match fn.body with | some c => codeOk fn.ntmps c | none => false) = true) (hn : s.args.length + 1 ≤ fn.ntmps) (hce : 0 < s.e.cells)
    (hs : ∀ (xs : List s.e.den) (ys : PDen s.args) (k : Nat), (∀ x ∈ xs, Good s.e x) → GoodR s.args ys → xs.length + k ≤ maxLen → s.pre xs ys →
      vfun T S keep fn (.vw 0 s.e 0 xs.length true :: argsO s.args ys 1) ((0, .raw s.te s.e (xs.map some ++ List.replicate k none)) :: heapO s.args ys 1) (fun v h' => readO s.te s.e v h' = some ((s.fn xs ys).map some))) : SpecOk P f s.spec := by
  refine ⟨fun C w g h fresh args vals c v news hP R hf hv hs hc => by simp [OSpec.spec] at hs, fun C w g h fresh args vals c v h' hP R hfr hv hq hc => ?_, fun C w g h fresh args vals K hP R hf hu hv hs => hs.elim⟩
  subst hP
  simp only [OSpec.spec, runO] at hq
  split at hq
  rotate_left
  · simp at hq
  rename_i a rest
  obtain ⟨F1, R1, e1, _⟩ := freezeAll_sound (w := w) (cellsRs s.args rest) h g R
  have hv1 : RVs C w ⟨g.anch, F1, g.U⟩ (a :: rest) vals := RVs_mono e1 _ _ hv
  revert hq
  generalize freezeAll h (cellsRs s.args rest) = h1 at R1 ⊢
  intro hq
  split at hq
  rotate_left
  · simp at hq
  rename_i xs ys os hxs hys
  split at hq
  rotate_left
  · simp at hq
  rename_i hnd
  have hnd := nodupN_nodup _ hnd
  simp only [Option.some.injEq, Prod.mk.injEq] at hq
  obtain ⟨rfl, rfl, rfl⟩ := hq
  have hpre : s.pre xs ys := hc _ (by simp)
  simp only [RVs] at hv1
  obtain ⟨av, us, rfl, ha, hus⟩ := hv1
  let OS := a :: os
  let g1 : Gh := ⟨g.anch, F1, g.U⟩
  let M' : Nat → Prop := fun b => ∃ (k i : Nat), OS[k]? = some (.own i) ∧ ablk (g.anch i) = some b
  let C' : Cx := ⟨C.P, w, M', F1, ([], 0), fun _ => undef, C.lw, C.lK⟩
  let g0 : Gh := ⟨oAnch g1 OS, F1, fun k => k < OS.length⟩
  obtain ⟨i1, i2, i3, i4, i5, i6⟩ := readOs_sound (C' := C') R1 (g0 := g0) (OS := OS) (fun k => rfl) (fun k hk => hk) (fun b hb => hb) (fun k i b h1 h2 h3 => ⟨.inl ⟨k, i, h1, h2⟩, h3.2⟩) s.args rest ys os us 1 hys hus (fun j c hc => by
    show (a :: os)[1 + j]? = some c
    rw [Nat.add_comm]; simpa using hc)
  have hul := RVs_len hus
  -- what stands behind a name
  have hOSall : ∀ c ∈ OS, c = .nil ∨ ∃ i te e zs, c = .own i ∧ lookN h1 i = some (.arr te e zs) := fun c hc => by
    rcases List.mem_cons.1 hc with rfl | hc
    · rcases ownL_out hxs with ⟨h, _⟩ | ⟨id, h, h'⟩
      · exact .inl h
      · exact .inr ⟨id, _, _, _, h, h'⟩
    · exact i4 c hc
  have hOSobj : ∀ (k i : Nat), OS[k]? = some (.own i) → ∃ o, lookN h1 i = some o ∧ o.mut = true := fun k i hk => by
    rcases hOSall _ (List.mem_iff_getElem?.2 ⟨k, hk⟩) with h | ⟨i', te, e, zs, h, h'⟩
    · cases h
    · cases h; exact ⟨_, h', rfl⟩
  have hMb : ∀ b, M' b → b < w.heap.size ∧ MutOk C g1 b := fun b ⟨k, i, h2, h3⟩ => by
    obtain ⟨o, q1, q2⟩ := hOSobj k i h2
    exact RO_block (R1.obj i o q1).2 q2 h3
  have hKK : ∀ b, C.K b → C'.K b := fun b hb => ⟨Nat.lt_of_lt_of_le hb.1 R.size, fun hm => by
    rcases (hMb b hm).2.1 with h1 | h1
    · exact hb.2 h1
    · have := hb.1; omega⟩
  -- the slice that is handed over first
  obtain ⟨k, hmax, hraw, A, n, c0, hav, hA, hc0, hn0, hgood⟩ : ∃ k, xs.length + k ≤ maxLen ∧ RO C' w g0 0 (.raw s.te s.e (xs.map some ++ List.replicate k none)) ∧ ∃ A n c, av = .slice A n c ∧ (A = none → c = 0) ∧ c = xs.length + k ∧ n = xs.length ∧ (∀ x ∈ xs, Good s.e x) := by
    have h0a : g0.anch 0 = oAnch g1 OS 0 := rfl
    rcases ownL_out hxs with ⟨hnil, hx0⟩ | ⟨id, hid, hl⟩
    · subst hx0
      rw [hnil] at ha
      simp only [RV] at ha
      refine ⟨0, by simp, ⟨hce, .inl ⟨?_, by simp⟩⟩, none, 0, 0, ha, fun _ => rfl, rfl, rfl, fun x hx => by simp at hx⟩
      rw [h0a]
      show (match (a :: os)[0]? with | some (.own id) => g1.anch id | _ => .slice none 0 0) = _
      simp [hnil]
    · have hO := (R1.obj id _ hl).2
      obtain ⟨k, hraw, hmax, A, n, c0, e2, e3, e4, e5⟩ := RO_raw hO
      rw [hid] at ha
      simp only [RV] at ha
      have ha0 : g0.anch 0 = g.anch id := by
        rw [h0a]
        show (match (a :: os)[0]? with | some (.own id) => g1.anch id | _ => .slice none 0 0) = _
        simp [hid, g1]
      refine ⟨k, hmax, ?_, A, n, c0, ha.2.1.trans e2, e3, e4, e5, (arr_good hO).2⟩
      obtain ⟨p0, ⟨r1, r2⟩ | ⟨blk, m, cur, r1, r2, r3, r4, r5, r6, r7⟩⟩ := hraw
      · exact ⟨p0, .inl ⟨ha0.trans r1, r2⟩⟩
      · refine ⟨p0, .inr ⟨blk, m, cur, ha0.trans r1, r2, r3, r4, r5, r6, .inl ⟨0, id, by show (a :: os)[0]? = _; simp [hid], ?_⟩, r7.2⟩⟩
        have r1' : g.anch id = .slice (some ⟨blk, 0, none⟩) m _ := r1
        rw [r1']; rfl
  have R2 : RelH C' ((0, .raw s.te s.e (xs.map some ++ List.replicate k none)) :: heapO s.args ys 1) w g0 := by
    have look0 : ∀ id o, lookN ((0, Obj.raw s.te s.e (xs.map some ++ List.replicate k none)) :: heapO s.args ys 1) id = some o → (id = 0 ∧ o = .raw s.te s.e (xs.map some ++ List.replicate k none)) ∨ (1 ≤ id ∧ lookN (heapO s.args ys 1) id = some o) := fun id o ho => by
      simp only [lookN] at ho
      split at ho
      · rename_i hb
        simp only [Option.some.injEq] at ho
        exact .inl ⟨(Nat.eq_of_beq_eq_true hb).symm, ho.symm⟩
      · exact .inr ⟨(i3 id o ho).1, ho⟩
    have back : ∀ id o, lookN ((0, Obj.raw s.te s.e (xs.map some ++ List.replicate k none)) :: heapO s.args ys 1) id = some o → ∀ b, ablk (g0.anch id) = some b → ∃ i, OS[id]? = some (.own i) ∧ ablk (g.anch i) = some b := fun id o ho b hb => by
      have hh : ∃ c, OS[id]? = some c := by
        rcases look0 id o ho with ⟨rfl, _⟩ | ⟨h1, h2⟩
        · exact ⟨a, rfl⟩
        · obtain ⟨_, _, c, hc, _⟩ := i3 id o h2
          exact ⟨c, hc⟩
      obtain ⟨c, hc⟩ := hh
      have hb' : ablk (oAnch g1 OS id) = some b := hb
      unfold oAnch at hb'
      rw [hc] at hb'
      rcases hOSall c (List.mem_iff_getElem?.2 ⟨id, hc⟩) with rfl | ⟨i, te, e, zs, rfl, h'⟩
      · simp [ablk] at hb'
      · exact ⟨i, hc, hb'⟩
    refine ⟨fun _ _ => rfl, Nat.le_refl _, rfl, rfl, rfl, R1.F, fun b hb => .inl hb, fun j hj => absurd hj List.not_mem_nil, ⟨fun b hb => ⟨hKK b (R.lam.1 b hb).1, (R.keep b (R.lam.1 b hb).1).trans (R.lam.1 b hb).2⟩, Nat.le_trans R.lam.2 R.size⟩, fun id o ho => ?_, fun id o id' o' b h1 h2 m1 m2 b1 b2 => ?_⟩
    · rcases look0 id o ho with ⟨rfl, rfl⟩ | ⟨h1, h2⟩
      · exact ⟨by show 0 < (a :: os).length; simp, hraw⟩
      · obtain ⟨_, q2, c, hc, _⟩ := i3 id o h2
        exact ⟨(List.getElem?_eq_some_iff.1 hc).1, q2⟩
    · obtain ⟨i, q1, q2⟩ := back id o h1 b b1
      obtain ⟨i', s1, s2⟩ := back id' o' h2 b b2
      obtain ⟨p, p1, p2⟩ := hOSobj id i q1
      obtain ⟨p', p1', p2'⟩ := hOSobj id' i' s1
      have := R1.sep i p i' p' b p1 p1' p2 p2' q2 s2
      subst this
      exact ownIds_inj OS hnd id id' i q1 s1
  have hvs : RVs C' w g0 (.vw 0 s.e 0 xs.length true :: argsO s.args ys 1) (av :: us) := by
    simp only [RVs]
    refine ⟨av, us, rfl, ?_, i1⟩
    have h0a : g0.anch 0 = av := by
      show (match (a :: os)[0]? with | some (.own id) => g1.anch id | _ => .slice none 0 0) = _
      rcases ownL_out hxs with ⟨hnil, _⟩ | ⟨id, hid, _⟩
      · rw [hnil] at ha
        simp only [RV] at ha
        simp [hnil, ha]
      · rw [hid] at ha
        simp only [RV] at ha
        simp [hid, ha.2.1, g1]
    simp only [RV]
    refine ⟨by show 0 < (a :: os).length; simp, A, n, c0, A, c0, h0a.trans hav, hA, by omega, by rw [hav, hn0], by omega, by omega, fun _ => by omega, .inr (by cases A <;> simp [Addr.add])⟩
  refine (vfun_sound (C := C') (g := g0) hpin hT hS hmix hf hok (by simp; omega) (hs xs ys k hgood i2 hmax hpre) R2 (fun id hid => by
    have h1 : id < (a :: os).length := hid
    show id < 0 + ((heapO s.args ys 1).length + 1 - 0)
    simp at h1
    omega) hvs).mono fun e w' ⟨v, h', x, g', hpost, he, R3, hx⟩ => ?_
  refine ⟨x, ?_⟩
  let FF : Nat → Prop := fun b => F1 b ∨ g'.F b
  let g2 : Gh := ⟨upd g.anch fresh x, FF, fun id => g.U id ∨ id = fresh⟩
  have hU := hfr fresh (Nat.le_refl _) (by omega)
  have hMF : ∀ b, M' b → ¬ F1 b := fun b hb => (hMb b hb).2.2
  have hFb : ∀ b, FF b → b < w'.heap.size := fun b hb => hb.elim (fun h => Nat.lt_of_lt_of_le (R1.F b h) R3.size) (R3.F b)
  have hF1 : ∀ b, g.F b → F1 b := fun b hb => (e1.F b hb).1
  have evo : Evo w g w' g2 := by
    refine ⟨fun b hb => ⟨.inl (hF1 b hb), R3.keep b ⟨R.F b hb, fun hm => hMF b hm (hF1 b hb)⟩⟩, fun id hid => ⟨.inl hid, upd_other _ _ _ (fun e => hU (e ▸ hid))⟩⟩
  have evo1 : Evo w g1 w' g2 := by
    refine ⟨fun b hb => ⟨.inl hb, R3.keep b ⟨R1.F b hb, fun hm => hMF b hm hb⟩⟩, fun id hid => ⟨.inl hid, upd_other _ _ _ (fun e => hU (e ▸ hid))⟩⟩
  have hmok : ∀ b, MutOk C' g' b → MutOk C g2 b ∧ (M' b ∨ w.heap.size ≤ b) := fun b ⟨q1, q2⟩ => by
    have hnF : ¬ F1 b := fun hF => by
      rcases q1 with q1 | q1
      · exact hMF b q1 hF
      · have := R1.F b hF; simp only [C'] at q1; omega
    refine ⟨⟨?_, fun hF => hF.elim hnF q2⟩, q1⟩
    rcases q1 with q1 | q1
    · exact (hMb b q1).2.1
    · exact .inr (Nat.le_trans R.size q1)
  have hnewO : RO C w' g2 fresh (.arr s.te s.e (s.fn xs ys)) ∧ (∃ A n c, x = .slice A n c) ∧ ∀ b, ablk x = some b → M' b ∨ w.heap.size ≤ b := by
    have hanch : g2.anch fresh = x := upd_same _ _ _
    have hlenM : ((s.fn xs ys).map some).length = (s.fn xs ys).length := by simp
    unfold readO at hpost
    split at hpost
    · -- nil
      simp only [Option.some.injEq] at hpost
      have h0 : s.fn xs ys = [] := by
        cases hq : s.fn xs ys with
        | nil => rfl
        | cons y r => rw [hq] at hpost; simp at hpost
      simp only [RV] at hx
      subst hx
      refine ⟨⟨[], ⟨by simp [h0], .inl ⟨hanch, by simp [h0]⟩⟩, by rw [h0]; rfl, hce, fun b hb => by rw [hanch] at hb; simp [ablk] at hb⟩, ⟨_, _, _, rfl⟩, fun b hb => by simp [ablk] at hb⟩
    · rename_i id
      split at hpost
      · rename_i te' e' zs ho
        split at hpost
        · rename_i zs' hbt hcast
          obtain rfl := Nat.eq_of_beq_eq_true hbt
          obtain ⟨rfl, hzs⟩ := castL_eq hcast
          simp at hzs
          subst hzs
          simp only [Option.some.injEq] at hpost
          have h0 : s.fn xs ys = zs := by
            have := congrArg (List.map (fun o => o.getD s.e.dflt)) hpost
            rw [map_some_getD, map_some_getD] at this
            exact this.symm
          simp only [RV] at hx
          obtain ⟨_, rfl, hsl⟩ := hx
          obtain ⟨cells, q1, q2, q3, q4⟩ := (R3.obj id _ ho).2
          rw [h0]
          refine ⟨⟨cells, by rw [hanch]; exact q1, reps_mono (fun b hb => ⟨.inr hb, rfl⟩) _ _ _ q2, q3, fun b hb => (hmok b (q4 b (by rw [hanch] at hb; exact hb))).1⟩, hsl, fun b hb => (hmok b (q4 b hb)).2⟩
        · simp at hpost
      · simp at hpost
    · rename_i id e0 n
      split at hpost
      · rename_i te' e' zs ho
        split at hpost
        · rename_i zs' heq hbt hcast _
          obtain rfl := Nat.eq_of_beq_eq_true hbt
          subst heq
          obtain ⟨rfl, hzs⟩ := castO_eq hcast
          simp at hzs
          subst hzs
          simp only [Option.some.injEq] at hpost
          simp only [RV] at hx
          obtain ⟨_, A2, m2, c2, A3, c3, f1, f2, f3, rfl, f4, f5, f6, f7⟩ := hx
          have f6 := f6 trivial
          rw [Nat.zero_add] at f6
          subst f6
          have hA3 : A3 = A2 := by
            rcases f7 with f7 | f7
            · omega
            · rw [f7]; cases A2 <;> simp [Addr.add]
          subst hA3
          have hO := (R3.obj id _ ho).2
          obtain ⟨rfl, _⟩ := raw_cap hO f1
          have hlen : n = (s.fn xs ys).length := by
            have := congrArg List.length hpost
            simp at this
            omega
          obtain ⟨p0, ⟨p1, p2⟩ | ⟨blk, m, cur, p1, p2, p3, p4, p5, p6, p7⟩⟩ := hO
          · rw [f1] at p1
            simp at p1
            subst p2
            obtain ⟨rfl, rfl, _⟩ := p1
            have hn0 : n = 0 := by simpa using f5
            have h0 : s.fn xs ys = [] := List.eq_nil_of_length_eq_zero (by omega)
            subst hn0
            refine ⟨⟨[], ⟨by simp [h0], .inl ⟨by rw [hanch]; simp, by simp [h0]⟩⟩, by rw [h0]; rfl, hce, fun b hb => by rw [hanch] at hb; simp [ablk] at hb⟩, ⟨_, _, _, rfl⟩, fun b hb => by simp [ablk] at hb⟩
          · rw [f1] at p1
            simp at p1
            obtain ⟨rfl, rfl⟩ := p1
            have hall : (zs.take n).all Option.isSome = true := by
              rw [hpost]; simp
            have hnx : n * s.e.cells ≤ zs.length * s.e.cells := mul_len f5
            have hr := rawRep_all (rawRep_take p6 n) (by rw [List.length_take, List.length_take, Array.length_toList, p5, Nat.min_eq_left hnx, Nat.min_eq_left f5]) hall
            rw [hpost, map_some_getD] at hr
            have hmk := hmok blk p7
            refine ⟨⟨cur.toList.take (n * s.e.cells), ⟨by rw [List.length_take, Array.length_toList, p5, Nat.min_eq_left hnx, hlen], .inr ⟨blk, zs.length, cur, by rw [hanch, hlen], Nat.zero_le _, p2, by omega, p4, p5, by rw [hlen]⟩⟩, reps_mono (fun b hb => ⟨.inr hb, rfl⟩) _ _ _ hr, hce, fun b hb => ?_⟩, ⟨_, _, _, rfl⟩, fun b hb => ?_⟩
            · rw [hanch] at hb; simp [ablk] at hb; subst hb; exact hmk.1
            · simp [ablk] at hb; subst hb; exact hmk.2
        · simp at hpost
      · simp at hpost
    · simp at hpost
  have hold2 : ∀ id o, lookN (delAll (ownIds (a :: os)) h1) id = some o → lookN h1 id = some o ∧ id ∉ ownIds OS := fun id o ho => by
    rw [delAll_look] at ho
    split at ho
    · simp at ho
    · rename_i hni
      exact ⟨ho, hni⟩
  have holdO : ∀ id o, lookN (delAll (ownIds (a :: os)) h1) id = some o → g.U id ∧ RO C w' g2 id o ∧ ∀ b, o.mut = true → ablk (g.anch id) = some b → b < w.heap.size ∧ ¬ M' b := fun id o ho => by
    obtain ⟨ho, hni⟩ := hold2 id o ho
    obtain ⟨q1, q2⟩ := R1.obj id o ho
    have hb0 : ∀ b, o.mut = true → ablk (g.anch id) = some b → b < w.heap.size ∧ ¬ M' b := fun b hm hb => ⟨(RO_block q2 hm hb).1, fun ⟨k, i, h5, h6⟩ => by
      obtain ⟨p, p1, p2⟩ := hOSobj k i h5
      have := R1.sep id o i p b ho p1 hm p2 hb h6
      subst this
      exact hni ((mem_ownIds _ _).2 (List.mem_iff_getElem?.2 ⟨k, h5⟩))⟩
    refine ⟨q1, RO_mono q1 q2 evo1 (fun b hm hb => ?_), hb0⟩
    obtain ⟨k1, k2⟩ := hb0 b hm hb
    refine ⟨R3.keep b ⟨k1, k2⟩, fun hF => ?_⟩
    rcases hF with hF | hF
    · exact (RO_block q2 hm hb).2.2 hF
    · rcases R3.Fin b hF with h3 | h3 | h3
      · exact (RO_block q2 hm hb).2.2 h3
      · exact k2 h3
      · simp only [C'] at h3; omega
  have look : ∀ k o, lookN ((fresh, Obj.arr s.te s.e (s.fn xs ys)) :: delAll (ownIds (a :: os)) h1) k = some o → (k = fresh ∧ o = .arr s.te s.e (s.fn xs ys)) ∨ (k ≠ fresh ∧ lookN (delAll (ownIds (a :: os)) h1) k = some o) := fun k o hk => by
    simp only [lookN] at hk
    cases hb : Nat.beq fresh k
    · rw [hb] at hk
      exact .inr ⟨fun e => by subst e; simp at hb, hk⟩
    · rw [hb] at hk
      simp only [Option.some.injEq] at hk
      exact .inl ⟨(Nat.eq_of_beq_eq_true hb).symm, hk.symm⟩
  refine ⟨g2, he, ⟨⟨fun b hb => (R3.keep b (hKK b hb)).trans (R.keep b hb), Nat.le_trans R.size R3.size, R3.os.trans R.os, R3.tape.trans R.tape, R3.output.trans R.output, hFb, fun b hb => ?_, evo.pin R.pin, R.lam, fun k o hk => ?_, fun k1 o1 k2 o2 b hk1 hk2 hm1 hm2 hb1 hb2 => ?_⟩, evo, ?_, fun id hid => ?_⟩⟩
  · rcases hb with hb | hb
    · exact R1.Fin b hb
    · rcases R3.Fin b hb with h3 | h3 | h3
      · exact R1.Fin b h3
      · exact .inr (hMb b h3).2.1
      · exact .inr (.inr (Nat.le_trans R.size h3))
  · rcases look k o hk with ⟨rfl, rfl⟩ | ⟨h3, h4⟩
    · exact ⟨.inr rfl, hnewO.1⟩
    · obtain ⟨q1, q2, _⟩ := holdO k o h4
      exact ⟨.inl q1, q2⟩
  · have anO : ∀ (k : Nat) (o : Obj), k ≠ fresh → g2.anch k = g.anch k := fun k o hk => upd_other _ _ _ hk
    have anN : g2.anch fresh = x := upd_same _ _ _
    rcases look k1 o1 hk1 with ⟨rfl, rfl⟩ | ⟨a1, a2⟩ <;> rcases look k2 o2 hk2 with ⟨rfl, rfl⟩ | ⟨b1, b2⟩
    · rfl
    · exfalso
      rw [anO k2 o2 b1] at hb2
      rw [anN] at hb1
      obtain ⟨_, _, q⟩ := holdO k2 o2 b2
      obtain ⟨q3, q4⟩ := q b hm2 hb2
      rcases hnewO.2.2 b hb1 with h5 | h5
      · exact q4 h5
      · omega
    · exfalso
      rw [anO k1 o1 a1] at hb1
      rw [anN] at hb2
      obtain ⟨_, _, q⟩ := holdO k1 o1 a2
      obtain ⟨q3, q4⟩ := q b hm1 hb1
      rcases hnewO.2.2 b hb2 with h5 | h5
      · exact q4 h5
      · omega
    · rw [anO k1 o1 a1] at hb1
      rw [anO k2 o2 b1] at hb2
      exact R1.sep k1 o1 k2 o2 b (hold2 _ _ a2).1 (hold2 _ _ b2).1 hm1 hm2 hb1 hb2
  · simp only [RV]
    exact ⟨.inr rfl, (upd_same _ _ _).symm, hnewO.2.1⟩
  · rcases hid with hid | rfl
    · exact .inl hid
    · exact .inr ⟨Nat.le_refl _, by omega⟩
end

/-! ## Rows known up to a place -/
section
variable {α : Type} {xs : List α} {k lo n : Nat}
theorem raw_len : (xs.map some ++ List.replicate k none : List (Option α)).length = xs.length + k := by simp
theorem raw_take (h : n ≤ xs.length) : (xs.map some ++ List.replicate k none).take n = (xs.take n).map some := by
  rw [List.take_append_of_le_length (by simpa using h), List.map_take]
theorem raw_cut (h : lo + n ≤ xs.length) : ((xs.map some ++ List.replicate k none).drop lo).take n = ((xs.drop lo).take n).map some := by
  rw [List.drop_append_of_le_length (by simp; omega), List.take_append_of_le_length (by simp; omega), List.map_take, List.map_drop]
theorem toNat_add' (a b : Nat) : ((a : Int) + (b : Int)).toNat = a + b := by omega
theorem toNat_addsub (a b c : Nat) : ((a : Int) + (b : Int) - (c : Int)).toNat = a + b - c := by omega
theorem toNat_subadd (a b c : Nat) : ((a : Int) - ((b : Int) + (c : Int))).toNat = a - (b + c) := by omega
theorem raw_all {ys : List α} : ((ys.map some).all Option.isSome) = true := by simp
theorem decEq_self' (e : Ty) : decEq e e = isTrue rfl := by
  cases decEq e e with
  | isTrue h => rfl
  | isFalse h => exact absurd rfl h
theorem readO_vw {te : TypeId} {e : Ty} {id n : Nat} {ys : List (Option e.den)} {h : Heap} : readO te e (.vw id e 0 n true) ((id, .raw te e ys) :: h) = some (ys.take n) := by
  simp [readO, lookN, castO, decEq_self']
theorem raw_get {i : Nat} (h : i < xs.length) : (xs.map some ++ List.replicate k none).getD i none = xs[i]? := by
  rw [List.getD_eq_getElem?_getD, List.getElem?_append_left (by simpa using h)]
  simp [List.getElem?_eq_getElem h]
end
section
variable {α : Type} {P Q V xs vs : List α} {k c n m i : Nat} {z : α}
theorem take_ge' {β : Type} {l : List β} (h : l.length ≤ n) : l.take n = l := List.take_of_length_le h
theorem take_lz' {β : Type} {l : List β} (h : n = 0) : l.take n = [] := by subst h; simp
theorem tk3 {β : Type} {P V R : List β} (h : n = P.length + V.length) : (P ++ V ++ R).take n = P ++ V := by subst h; rw [← List.length_append, List.take_left']; rfl
theorem tk2 {β : Type} {P R : List β} (h : n = P.length) : (P ++ R).take n = P := by subst h; simp
theorem ins_new (hi : i ≤ xs.length) (hk : xs.length + k < xs.length + vs.length) (hc : xs.length + vs.length ≤ c) :
  List.take (i + (xs.length + vs.length - i))  (List.take (i + vs.length)
                    (List.take i
                          (List.take i (List.map some xs ++ List.replicate k none) ++
                              List.replicate (xs.length + vs.length - i) (some z) ++
                            List.replicate (c - (i + (xs.length + vs.length - i))) none) ++
                        List.map some (List.take (i + (xs.length + vs.length - i) - i) vs) ++
                      List.drop (i + min (i + (xs.length + vs.length - i) - i) vs.length)
                        (List.take i (List.map some xs ++ List.replicate k none) ++
                            List.replicate (xs.length + vs.length - i) (some z) ++
                          List.replicate (c - (i + (xs.length + vs.length - i))) none)) ++
                  List.map some
                    (List.take (i + (xs.length + vs.length - i) - (i + vs.length))
                      (List.map (fun r => r.getD z)
                        (List.take (min (xs.length - i) (i + (xs.length + vs.length - i) - (i + vs.length)))
                          (List.drop i (List.map some xs ++ List.replicate k none))))) ++
                List.drop
                  (i + vs.length +
                    min (i + (xs.length + vs.length - i) - (i + vs.length))
                      (min (min (xs.length - i) (i + (xs.length + vs.length - i) - (i + vs.length)))
                        (xs.length + k - i)))
                  (List.take i
                        (List.take i (List.map some xs ++ List.replicate k none) ++
                            List.replicate (xs.length + vs.length - i) (some z) ++
                          List.replicate (c - (i + (xs.length + vs.length - i))) none) ++
                      List.map some (List.take (i + (xs.length + vs.length - i) - i) vs) ++
                    List.drop (i + min (i + (xs.length + vs.length - i) - i) vs.length)
                      (List.take i (List.map some xs ++ List.replicate k none) ++
                          List.replicate (xs.length + vs.length - i) (some z) ++
                        List.replicate (c - (i + (xs.length + vs.length - i))) none))) = (xs.take i ++ (vs ++ xs.drop i)).map some := by
  rw [raw_cut (by omega), map_some_getD, show i + (xs.length + vs.length - i) = xs.length + vs.length by omega]
  rw [show min (xs.length - i) (xs.length + vs.length - (i + vs.length)) = xs.length - i by omega, show xs.length + vs.length - (i + vs.length) = xs.length - i by omega, raw_take (by omega)]
  rw [show (xs.drop i).take (xs.length - i) = xs.drop i from List.take_of_length_le (by simp), show (xs.drop i).take (xs.length - i) = xs.drop i from List.take_of_length_le (by simp)]
  rw [show vs.take (xs.length + vs.length - i) = vs from List.take_of_length_le (by omega)]
  rw [tk3 (by simp; omega), tk3 (by simp; omega), List.append_assoc ((List.take _ _).map _), tk2 (by simp; omega)]
  simp

theorem ins_in (hi : i ≤ xs.length) (hk : xs.length + vs.length ≤ xs.length + k) :
  List.take (xs.length + vs.length) 
              (List.take i
                    (List.take (i + vs.length) (List.map some xs ++ List.replicate k none) ++
                        List.map some
                          (List.take (xs.length + vs.length - (i + vs.length))
                            (List.map (fun r => r.getD z)
                              (List.take (min (xs.length + vs.length - i) (xs.length + vs.length - (i + vs.length)))
                                (List.drop i (List.map some xs ++ List.replicate k none))))) ++
                      List.drop
                        (i + vs.length +
                          min (xs.length + vs.length - (i + vs.length))
                            (min (min (xs.length + vs.length - i) (xs.length + vs.length - (i + vs.length)))
                              (xs.length + k - i)))
                        (List.map some xs ++ List.replicate k none)) ++
                  List.map some (List.take (xs.length + vs.length - i) vs) ++
                List.drop (i + min (xs.length + vs.length - i) vs.length)
                  (List.take (i + vs.length) (List.map some xs ++ List.replicate k none) ++
                      List.map some
                        (List.take (xs.length + vs.length - (i + vs.length))
                          (List.map (fun r => r.getD z)
                            (List.take (min (xs.length + vs.length - i) (xs.length + vs.length - (i + vs.length)))
                              (List.drop i (List.map some xs ++ List.replicate k none))))) ++
                    List.drop
                      (i + vs.length +
                        min (xs.length + vs.length - (i + vs.length))
                          (min (min (xs.length + vs.length - i) (xs.length + vs.length - (i + vs.length)))
                            (xs.length + k - i)))
                      (List.map some xs ++ List.replicate k none))) = (xs.take i ++ (vs ++ xs.drop i)).map some := by
  rw [show min (xs.length + vs.length - i) (xs.length + vs.length - (i + vs.length)) = xs.length - i by omega, raw_cut (by omega), map_some_getD]
  rw [show xs.length + vs.length - (i + vs.length) = xs.length - i by omega]
  rw [show (xs.drop i).take (xs.length - i) = xs.drop i from List.take_of_length_le (by simp), show (xs.drop i).take (xs.length - i) = xs.drop i from List.take_of_length_le (by simp), List.take_of_length_le (l := vs) (by omega)]
  rw [show List.take i (List.take (i + vs.length) (xs.map some ++ List.replicate k none) ++ (xs.drop i).map some ++ List.drop (i + vs.length + min (xs.length - i) (min (xs.length - i) (xs.length + k - i))) (xs.map some ++ List.replicate k none)) = (xs.take i).map some by
    rw [List.append_assoc, List.take_append_of_le_length (by simp; omega), List.take_take, Nat.min_eq_left (by omega), raw_take (by omega)]]
  rw [show i + min (xs.length + vs.length - i) vs.length = i + vs.length by omega, List.drop_append_of_le_length (by simp; omega), List.drop_append_of_le_length (by simp; omega), List.drop_of_length_le (by simp; omega), List.nil_append, ← List.append_assoc, tk2]
  · simp
  · simp; omega
end
/-! ## Maps -/
theorem keyEq_int {q : IntKind} (a b : Int) : keyEq (.int q) a b = true ↔ a = b := by simp [keyEq]
theorem keyEq_str (a b : List UInt8) : keyEq .str a b = true ↔ a = b := by simp [keyEq]
section
variable {k : Ty} {α : Type} {a b : k.den} {d v : α}
theorem mapGet_put (hk : ∀ a b, keyEq k a b = true ↔ a = b) : ∀ (l : List (k.den × α)), mapGet k a d (mapPut k b v l) = if keyEq k a b = true then v else mapGet k a d l
  | [] => by simp [mapPut, mapGet]
  | (c, u) :: r => by
    by_cases h1 : keyEq k b c = true
    · simp only [mapPut, if_pos h1, mapGet]
      have := (hk _ _).1 h1
      subst this
      split <;> rfl
    · simp only [mapPut, if_neg h1, mapGet]
      by_cases h2 : keyEq k a c = true
      · have := (hk _ _).1 h2
        subst this
        have h3 : ¬ keyEq k a b = true := fun h => h1 ((hk _ _).2 ((hk _ _).1 h).symm)
        simp only [if_pos h2, if_neg h3]
      · simp only [if_neg h2, mapGet_put hk r]
theorem mapHas_put (hk : ∀ a b, keyEq k a b = true ↔ a = b) : ∀ (l : List (k.den × α)), mapHas k a (mapPut k b v l) = (keyEq k a b || mapHas k a l)
  | [] => by simp [mapPut, mapHas]
  | (c, u) :: r => by
    by_cases h1 : keyEq k b c = true
    · simp only [mapPut, if_pos h1, mapHas]
      have := (hk _ _).1 h1
      subst this
      cases keyEq k a b <;> simp
    · simp only [mapPut, if_neg h1, mapHas, mapHas_put hk r]
      cases keyEq k a c <;> cases keyEq k a b <;> rfl
end
end Go.Eng
