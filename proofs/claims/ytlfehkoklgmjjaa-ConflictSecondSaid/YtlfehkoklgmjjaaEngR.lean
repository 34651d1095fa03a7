import Derived.Test.YtlfehkoklgmjjaaEngQ
/- A law's row. -/
set_option linter.unusedVariables false
set_option linter.unusedSimpArgs false
namespace Go.Eng
open Go.RowKit (Below)
open Go.RowKit Go.WideShapes Go.ChangeShapes Go.ChangeAt

/-- The data types of a law's parameters: a struct or an array is an aggregate of two cells at least. -/
def lawTy (P : Program) (t : TypeId) : Option Ty :=
  match lawRow P 8 t with
  | some a => match P.underlying t with
    | some (.struct _) => if isPair a then some a else none
    | some (.array _ _) => if isPair a then some a else none
    | _ => if isPair a then none else some a
  | none => none
def lawTys (P : Program) : List TypeId → Option (List Ty)
  | [] => some []
  | t :: r => match lawTy P t, lawTys P r with
    | some a, some l => some (a :: l)
    | _, _ => none
def lawSpec (tys : List Ty) : PSpec := ⟨tys.map .d, [⟨false, [.d .bool]⟩], fun _ => True, fun _ => ((true, ()), ())⟩

section
variable {H : Type} {enc : TypeId × Value → H} {P : Program} {W W' : World}

theorem lawTy_some {t : TypeId} {ty : Ty} (h : lawTy P t = some ty) : lawRow P 8 t = some ty ∧ ((isPair ty = true ∧ ((∃ fs, P.underlying t = some (.struct fs)) ∨ ∃ m e, P.underlying t = some (.array m e))) ∨ (isPair ty = false ∧ (∀ fs, P.underlying t ≠ some (.struct fs)) ∧ ∀ m e, P.underlying t ≠ some (.array m e))) := by
  unfold lawTy at h
  split at h
  · rename_i a ha
    split at h
    · rename_i fs hu
      split at h
      · rename_i hp; simp at h; subst h; exact ⟨ha, .inl ⟨hp, .inl ⟨fs, hu⟩⟩⟩
      · simp at h
    · rename_i m e hu
      split at h
      · rename_i hp; simp at h; subst h; exact ⟨ha, .inl ⟨hp, .inr ⟨m, e, hu⟩⟩⟩
      · simp at h
    · rename_i h1 h2
      split at h
      · simp at h
      · rename_i hp
        simp at h; subst h
        exact ⟨ha, .inr ⟨by simpa using hp, h1, h2⟩⟩
  · simp at h

theorem law_arg {base : Nat} {t : TypeId} {ty : Ty} {v : Value} {d : DataW H} {ps : List MemPlace} (ht : lawTy P t = some ty) (hok : Value.okWide P W .any base t v) (h : DataW.Trod enc P W 0 (fun _ => true) true t v d ps) :
    ∃ x : ty.den, RV (Cx.at P W (fun b => b < W.heap.size)) W (Gh.at (fun b => b < W.heap.size)) (vOfDen ty x) v := by
  obtain ⟨h1, h2⟩ := lawTy_some ht
  obtain ⟨fuel, hf⟩ := h
  obtain ⟨x, hx⟩ := rep_of_trod fuel 8 t ty _ d ps h1 hf
  refine ⟨x, RV_vOfDen ty x v hx ?_⟩
  rcases h2 with ⟨hp, hu⟩ | ⟨hp, hu1, hu2⟩
  · cases ty <;> simp [isPair] at hp
    simp only [shape]
    unfold Value.okWide at hok
    rcases hu with ⟨fs, hu⟩ | ⟨m, e, hu⟩ <;> rw [hu] at hok <;> obtain ⟨cs, rfl, _⟩ := hok <;> exact ⟨cs, rfl⟩
  · have one : v.oneCell' = true := by
      unfold Value.okWide at hok
      split at hok
      · rename_i fs hu; exact absurd hu (hu1 fs)
      · rename_i m e hu; exact absurd hu (hu2 m e)
      · cases v with
        | agg cs =>
          exfalso
          revert hok hf
          unfold lawRow at h1
          split at h1
          all_goals (try (cases h1; done))
          all_goals (rename_i hu; intro hf hok)
          all_goals first
            | (simp [Cell.okWide, Cell.ok, hu] at hok; done)
            | skip
          all_goals (first | exact absurd hu (hu1 _) | exact absurd hu (hu2 _ _))
        | tuple cs =>
          exfalso
          revert hok hf
          unfold lawRow at h1
          split at h1
          all_goals (try (cases h1; done))
          all_goals (rename_i hu; intro hf hok)
          all_goals first
            | (simp [Cell.okWide, Cell.ok, hu] at hok; done)
            | skip
          all_goals (first | exact absurd hu (hu1 _) | exact absurd hu (hu2 _ _))
        | _ => rfl
    cases ty <;> simp [isPair] at hp <;> exact one

theorem law_args {base : Nat} : ∀ (ts : List TypeId) (tys : List Ty) (vs : List Value) (ds : List (DataW H)) (ps : List MemPlace), lawTys P ts = some tys → (∀ (j : Nat) t v, ts[j]? = some t → vs[j]? = some v → Value.okWide P W .any base t v) →
    DataW.TrodAll enc P W 0 (fun _ => true) true ts vs ds ps → ∃ xs, RVs (Cx.at P W (fun b => b < W.heap.size)) W (Gh.at (fun b => b < W.heap.size)) (argsV (tys.map .d) xs) vs
  | [], tys, vs, ds, ps, ht, _, h => by
    simp [lawTys] at ht; subst ht
    cases vs with
    | nil => exact ⟨(), rfl⟩
    | cons v vs => exact h.elim
  | t :: ts, tys, [], ds, ps, ht, _, h => h.elim
  | t :: ts, tys, v :: vs, [], ps, ht, _, h => h.elim
  | t :: ts, tys, v :: vs, d :: ds, ps, ht, hok, h => by
    simp only [lawTys] at ht
    split at ht
    · rename_i a l ha hl
      simp at ht; subst ht
      simp only [DataW.TrodAll] at h
      obtain ⟨p, q, h1, h2, rfl⟩ := h
      obtain ⟨x, hx⟩ := law_arg ha (hok 0 t v rfl rfl) h1
      obtain ⟨xs, hxs⟩ := law_args ts l vs ds q hl (fun j t v h3 h4 => hok (j + 1) t v (by simpa using h3) (by simpa using h4)) h2
      exact ⟨(x, xs), v, vs, rfl, hx, hxs⟩
    · simp at ht

theorem trod_args (hl : laidOutB P = true) (hb : Below W.heap.size W W') : ∀ (ts : List TypeId) (vs : List Value) (ds : List (DataW H)) (ps : List MemPlace), (ts.all fun t => P.readableRec t && decide (t < P.types.size)) = true → (∀ x ∈ ps, x.block < W.heap.size) →
    DataW.TrodAll enc P W 0 (fun _ => true) true ts vs ds ps → DataW.TrodAll enc P W' 0 (fun b => decide (b < W.heap.size)) true ts vs ds ps
  | [], vs, ds, ps, _, _, h => by
    cases vs with
    | nil =>
      cases ds with
      | nil => exact h
      | cons d ds => exact h.elim
    | cons v vs => exact h.elim
  | t :: ts, [], ds, ps, _, _, h => h.elim
  | t :: ts, v :: vs, [], ps, _, _, h => h.elim
  | t :: ts, v :: vs, d :: ds, ps, hr, hlt, h => by
    simp only [List.all_cons, Bool.and_eq_true, decide_eq_true_eq] at hr
    obtain ⟨p, q, h1, h2, rfl⟩ := h
    exact ⟨p, q, Below.trod hl hr.1.1 hr.1.2 h1 hb (fun x hx => hlt x (by simp [hx])), trod_args hl hb ts vs ds q hr.2 (fun x hx => hlt x (by simp [hx])) h2, rfl⟩
theorem trodAll_len {w : World} {base : Nat} {sp : Nat → Bool} {hd : Bool} : ∀ (ts : List TypeId) (vs : List Value) (ds : List (DataW H)) (ps : List MemPlace), DataW.TrodAll enc P w base sp hd ts vs ds ps → ds.length = ts.length
  | [], [], [], _, _ => rfl
  | [], [], _ :: _, _, h => h.elim
  | [], _ :: _, _, _, h => h.elim
  | _ :: _, [], _, _, h => h.elim
  | _ :: _, _ :: _, [], _, h => h.elim
  | t :: ts, v :: vs, d :: ds, ps, h => by
    obtain ⟨p, q, _, h2, _⟩ := h
    simp [trodAll_len ts vs ds q h2]

theorem law_row {C : Checked} {os : Os} {f : FuncId} {fn : Func} {s : ChangeSpec} {conds : List PathCond} {tys : List Ty} {tb : TypeId}
    (own : ownKnob C.prog.godebug = none) (started : os.Started) (noInit : C.prog.inits.idxOf? f = none) (hfn : C.prog.funcs[f]? = some fn) (laid : laidOutB C.prog = true)
    (witness : ∃ (w : World) (tape : Tape) (i : Input), w.os = os ∧ (w.forCall tape i).Shaped C.prog ∧ i.vars = [] ∧ Input.okWide C.prog (w.forCall tape i) .any w.heap.size f i ∧
      s.pre6 enc C.prog fn conds false (w.forCall tape i).memory i.args ∧ ({} : Assume).holds C.prog (lone (Frame.enter C.prog f i.args .normal) [] (w.forCall tape i)))
    (ht : lawTys C.prog fn.params.toList = some tys) (hr : (fn.params.toList.all fun t => C.prog.readableRec t && decide (t < C.prog.types.size)) = true)
    (hres : fn.resultTypes = #[tb]) (htb : C.prog.underlying tb = some .bool) (hvars : s.vars = []) (hs : ∀ ds : List (DataW H), ds.length = fn.params.toList.length → s.fn H ds = { results := [.lit (.bool true)], args := ds })
    (hp : PSound C.prog f (lawSpec tys)) :
    ReturnsInHanded {} C os f .any (s.pre6 enc C.prog fn conds false) (s.post enc C.prog fn false true false false) := by
  refine returnsInHanded_of_change (C := C) own started noInit hfn witness ?_
  intro W base args ds gs before hval hW hcnd _
  have hW' := hW
  obtain ⟨p, q, hA, hV, rfl, hfz, hnd⟩ := hW
  rw [hvars] at hV
  obtain ⟨rfl, rfl⟩ : gs = [] ∧ q = [] := by
    cases gs with
    | nil => exact ⟨rfl, by simpa [DataW.TrodVars] using hV⟩
    | cons g gs => simp [DataW.TrodVars] at hV
  obtain ⟨xs, hxs⟩ := law_args (base := base) _ tys _ _ _ ht (fun j t v h1 h2 => hval j t v (by simpa using h1) (by simpa using h2)) hA
  have hargs : args = args.toList.toArray := by simp
  rw [hargs]
  refine (hp W _ xs args.toList (fun b hb => hb) hxs trivial).mono fun e W' ⟨x, g', he, Q⟩ => ⟨x, he, ?_⟩
  rw [← hargs]
  have hx : x = .bool true := by
    have := Q.val
    simpa [lawSpec, resV, rsV, oneV, psV, ofDen, RV] using this
  subst hx
  have hlen := trodAll_len _ _ _ _ hA
  have hfn' := hs ds hlen
  refine ⟨ds, [], _, [], p, [], hW', ?_, ?_, ?_, Q.below.frame _, fun h => by cases h⟩
  · rw [List.append_nil, hfn', hres]
    exact trodAll_mk1 (shut_bool htb _)
  · rw [List.append_nil, hfn']
    exact trod_args laid Q.below _ _ _ _ hr (fun y hy => hW'.lt y (by simp [hy])) hA
  · rw [hvars, List.append_nil, hfn']
    simp [DataW.TrodVars]
end
end Go.Eng
namespace Go.Eng
def tabAll (P : Program) : Tab → Bool
  | [] => true
  | (t, i) :: r => decide (tiOf P t = some i) && tabAll P r
theorem tabOk_of {P : Program} : ∀ {T : Tab}, tabAll P T = true → TabOk P T
  | [], _, t, i, h => by simp [Tab.ti, lookN] at h
  | (k, v) :: r, hb, t, i, h => by
    simp only [tabAll, Bool.and_eq_true, decide_eq_true_eq] at hb
    simp only [Tab.ti, lookN] at h
    cases hk : Nat.beq k t
    · rw [hk] at h; exact tabOk_of hb.2 t i h
    · rw [hk] at h
      obtain rfl := Nat.eq_of_beq_eq_true hk
      simp at h; subst h
      exact hb.1
end Go.Eng
