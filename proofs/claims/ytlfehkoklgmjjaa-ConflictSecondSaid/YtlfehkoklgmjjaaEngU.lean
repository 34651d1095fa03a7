import Derived.Test.YtlfehkoklgmjjaaEngT
/- Functions that hand back a new variable. -/
set_option linter.unusedVariables false
set_option linter.unusedSimpArgs false
namespace Go.Eng
open Go.RowKit (Below)

structure NSpec where
  args : List AK
  ps : List RK
  pre : ADen args → Prop
  fn : ADen args → PDen ps
def allD : List RK → Bool
  | [] => true
  | .d _ :: r => allD r
  | _ => false
def readN (ps : List RK) (v : V) (h : Heap) : Option (PDen ps) :=
  match v with
  | .ptr id 0 => match lookN h id with
    | some (.box cs) => readPs (freezeAll h cs) ps cs
    | _ => none
  | _ => none
def Gh.data (F : Nat → Prop) : Gh := ⟨fun _ => .slice none 0 0, F, fun _ => False⟩
def NSound (P : Program) (f : FuncId) (s : NSpec) : Prop :=
  ∀ (w : World) (F : Nat → Prop) (xs : ADen s.args) (vals : List Value), (∀ b, F b → b < w.heap.size) → RVs (Cx.at P w F) w (Gh.at F) (argsV s.args xs) vals → s.pre xs →
    Calls P f vals.toArray w fun e w' => ∃ blk vs te F', e = .returned (.pointer (some ⟨blk, 0, none⟩)) ∧ Below w.heap.size w w' ∧ w.heap.size ≤ blk ∧ w'.heap[blk]? = some (.cells vs.toArray te (0, 0)) ∧ RVs (Cx.at P w F) w' (Gh.data F') (psV s.ps (s.fn xs) 0) vs ∧
      (∀ v ∈ vs, v.oneCell' = true) ∧ ¬ F' blk ∧ (∀ b, F b → F' b) ∧ ∀ b, F' b → F b ∨ (w.heap.size ≤ b ∧ b < w'.heap.size)

theorem oPs_allD : ∀ (l : List RK) (cs : List V), allD l = true → oPs l cs = []
  | [], cs, _ => rfl
  | .d t :: r, cs, h => by simp only [oPs]; exact oPs_allD r _ h
  | .o te e :: r, cs, h => by simp [allD] at h

theorem nsound {P : Program} {T : Tab} {S : Specs} {keep : List (Nat × List Nat)} (hpin : pinsOf keep = ([], 0)) (hT : TabOk P T) (hS : SpecsOk P S) (hmix : P.follows .mixedOrders = true) {f : FuncId} {fn : Func} (hf : P.funcs[f]? = some fn) {s : NSpec}
    (hd : allD s.ps = true) (hok : (match fn.body with | some c => codeOk fn.ntmps c | none => false) = true) (hn : s.args.length ≤ fn.ntmps)
    (hs : ∀ xs, GoodA s.args xs → s.pre xs → vfun T S keep fn (argsV s.args xs) [] (fun v h' => readN s.ps v h' = some (s.fn xs))) : NSound P f s := by
  intro w F xs vals hF hv hpre
  have hl := RVs_len hv
  rw [argsV_len] at hl
  refine (vfun_sound (C := Cx.at P w F) (g := Gh.at F) hpin hT hS hmix hf hok (by omega) (hs xs (argsV_good _ _ _ hv) hpre) (RelH.at P w F hF) (fun id h => h.elim) hv).mono fun e w' ⟨v, h', x, g', hpost, he, R, hx⟩ => ?_
  unfold readN at hpost
  split at hpost
  · rename_i id
    split at hpost
    · rename_i cs hl
      obtain ⟨F1, R1, e1, _⟩ := freezeAll_sound (w := w') cs h' g' R
      have hl1 := freezeAll_box cs h' id cs hl
      obtain ⟨hU, blk, vs, te, q1, q2, q3, q4, q5⟩ := R1.obj id _ hl1
      obtain ⟨p1, _⟩ := readPs_sound (C' := Cx.at P w F) R1 (g2 := Gh.data (fun b => F b ∨ F1 b)) (os := []) (fun k => by simp [Gh.data, oAnch]) (fun k hk => absurd hk (Nat.not_lt_zero k)) (fun b hb => .inr hb) (fun k i b hk => by simp at hk)
        s.ps cs (s.fn xs) vs 0 hpost q3 (fun j c hc => by rw [oPs_allD _ _ hd] at hc; simp at hc)
      simp only [RV] at hx
      obtain ⟨_, a, ha, rfl⟩ := hx
      have q1' : g'.anch id = .pointer (some ⟨blk, 0, none⟩) := q1
      rw [q1'] at ha
      simp only [Value.pointer.injEq, Option.some.injEq] at ha
      subst ha
      have hge : w.heap.size ≤ blk := by
        rcases q5.1 with h1 | h1
        · exact h1.elim
        · exact h1
      refine ⟨blk, vs, te, fun b => F b ∨ F1 b, by rw [he]; simp [Addr.add], ⟨R.os, R.tape, R.output, R.size, fun k hk => R.keep k ⟨hk, fun h => h⟩⟩, hge, q2, p1, q4, fun hFb => ?_, fun b hb => .inl hb, fun b hb => ?_⟩
      · rcases hFb with h1 | h1
        · have := hF blk h1; omega
        · exact q5.2 h1
      · rcases hb with h1 | h1
        · exact .inl h1
        · rcases R1.Fin b h1 with h2 | h2 | h2
          · exact .inl h2
          · exact h2.elim
          · exact .inr ⟨h2, R1.F b h1⟩
    · simp at hpost
  · simp at hpost

def runNQ (L : LSpecs) (s : NSpec) (args : List V) (h : Heap) (fresh : Nat) : R :=
  match readArgs L h false s.args args with
  | some xs => some ([s.pre xs], .ptr fresh 0, [(fresh, .box (psV s.ps (s.fn xs) 0))])
  | none => none
def runNL (L : LSpecs) (s : NSpec) (args : List V) (h : Heap) (fresh : Nat) : R :=
  match runNQ L s args (freezeAll h (argCells s.args args)) fresh with
  | some (c, v, news) => some (c, v, news ++ freezeAll h (argCells s.args args))
  | none => none
def NSpec.spec (L : LSpecs) (s : NSpec) : Spec := ⟨runNQ L s, runNL L s, noK⟩
theorem ncall {L : LSpecs} {C : Cx} {w : World} {g : Gh} {h : Heap} (hL : LSpecsOk C.P L) {f : FuncId} {s : NSpec} (hp : NSound C.P f s) {fresh : Nat} (R : RelH C h w g) (hf : FreshIds g fresh) {args : List V} {vals : List Value} (hv : RVs C w g args vals) {c : List Prop} {v : V} {news : Heap}
    (hs : runNQ L s args h fresh = some (c, v, news)) (hc : ∀ p ∈ c, p) : Calls C.P f vals.toArray w fun e w' => ∃ x g', e = .returned x ∧ QRes C w g fresh v news x w' g' := by
  unfold runNQ at hs
  split at hs
  · rename_i xs hxs
    simp only [Option.some.injEq, Prod.mk.injEq] at hs
    obtain ⟨rfl, rfl, rfl⟩ := hs
    have hargs := readArgs_sound hL R s.args args xs vals hxs hv
    have hFc : ∀ b, Fcall w g false b → b < w.heap.size := fun b hb => hb.elim (R.F b) (fun h => h.2)
    refine (hp w _ xs vals hFc hargs (hc _ (by simp))).mono fun e w' ⟨blk, vs, te, F', he, hb, h1, h2, h3, h4, h5, h6, h7⟩ => ?_
    have hU : ¬ g.U fresh := hf fresh (Nat.le_refl _) (by omega)
    let g1 : Gh := ⟨upd g.anch fresh (.pointer (some ⟨blk, 0, none⟩)), F', fun k => g.U k ∨ k = fresh⟩
    refine ⟨_, g1, he, hb, fun b hb => h6 b (.inl hb), fun b hb => ?_, fun id hid => ⟨.inl hid, upd_other _ _ _ (fun e => hU (e ▸ hid))⟩, fun id hid => ?_, ?_, fun id o ho => ?_, fun id o id' o' b q1 q2 _ _ _ _ => ?_⟩
    · rcases h7 b hb with q | q
      · rcases q with q | q
        · exact .inl q
        · exact absurd q.1 (by simp)
      · exact .inr q
    · rcases hid with q | q
      · exact .inl q
      · subst q; exact .inr ⟨Nat.le_refl _, by omega⟩
    · simp only [RV]
      exact ⟨.inr rfl, _, upd_same _ _ _, by simp [Addr.add]⟩
    · simp only [lookN] at ho
      cases hq : Nat.beq fresh id
      · rw [hq] at ho; simp at ho
      · rw [hq] at ho
        obtain rfl := Nat.eq_of_beq_eq_true hq
        simp only [Option.some.injEq] at ho
        subst ho
        refine ⟨⟨Nat.le_refl _, by omega⟩, .inr rfl, ⟨blk, vs, te, upd_same _ _ _, h2, ?_, h4, .inr (Nat.le_trans R.size h1), h5⟩, fun b hb => ?_⟩
        · have hdat : ∀ (l : List RK) (x : PDen l) (k : Nat) (us : List Value), RVs (Cx.at C.P w (Fcall w g false)) w' (Gh.data F') (psV l x k) us → RVs C w' g1 (psV l x k) us := by
            intro l
            induction l with
            | nil => intro x k us h; exact h
            | cons q qs ih =>
              intro x k us h
              cases q with
              | d t =>
                simp only [psV] at h ⊢
                obtain ⟨us1, us2, rfl, a1, a2⟩ := RVs_split h
                have a3 : rep w' F' t x.1 us1 := rep_ofDen t _ _ a1
                exact RVs_append (RVs_ofDen (g := g1) t _ _ a3) (ih _ _ _ a2)
              | o te e =>
                simp only [psV, RVs, RV] at h
                obtain ⟨u, us', _, ⟨hF, _⟩, _⟩ := h
                exact hF.elim
          exact hdat _ _ _ _ h3
        · simp only [g1, upd_same, ablk, Option.some.injEq] at hb
          subst hb; exact h1
    · simp only [lookN] at q1 q2
      cases hq : Nat.beq fresh id <;> simp [hq] at q1
      cases hq' : Nat.beq fresh id' <;> simp [hq'] at q2
      exact (Nat.eq_of_beq_eq_true hq).symm.trans (Nat.eq_of_beq_eq_true hq')
  · simp at hs
theorem nOk {P : Program} {L : LSpecs} (hL : LSpecsOk P L) {f : FuncId} {s : NSpec} (hp : NSound P f s) : SpecOk P f (s.spec L) := by
  refine ⟨fun C w g h fresh args vals c v news hP R hf hv hs hc => ?_, fun C w g h fresh args vals c v h' hP R hf hv hs hc => ?_, fun C w g h fresh args vals K hP R hf hu hv hs => hs.elim⟩
  · subst hP
    exact ncall hL hp R hf hv hs hc
  · subst hP
    simp only [NSpec.spec, runNL] at hs
    split at hs
    · rename_i c1 v1 news hq
      simp only [Option.some.injEq, Prod.mk.injEq] at hs
      obtain ⟨rfl, rfl, rfl⟩ := hs
      obtain ⟨F1, R1, e1, _⟩ := freezeAll_sound (w := w) (argCells s.args args) h g R
      have hv1 : RVs C w ⟨g.anch, F1, g.U⟩ args vals := RVs_mono e1 _ _ hv
      refine (ncall hL hp R1 hf hv1 hq hc).mono fun e w' ⟨x, g', he, q⟩ => ⟨x, g', he, ?_⟩
      have wr := q.wres R1
      exact ⟨wr.rel, e1.trans wr.evo, wr.val, wr.U⟩
    · simp at hs
end Go.Eng
