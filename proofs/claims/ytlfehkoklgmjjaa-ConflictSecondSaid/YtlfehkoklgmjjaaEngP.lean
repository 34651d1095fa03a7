import Derived.Test.YtlfehkoklgmjjaaEngO
/- Pure functions, the caller's side. -/
set_option linter.unusedVariables false
set_option linter.unusedSimpArgs false
namespace Go.Eng
open Go.RowKit (Below)

/-- A function whose values are pure functions: what it takes, what it gives, what it has caught. -/
structure LSpec where
  a : Ty
  b : Ty
  caps : List AK
  fn : a.den → ADen caps → b.den
def isPair : Ty → Bool
  | .pair _ _ => true
  | _ => false
def rsOf (b : Ty) : RS := ⟨isPair b, [.d b]⟩
def LSpec.p (s : LSpec) : PSpec := ⟨.d s.a :: s.caps, [rsOf s.b], fun _ => True, fun x => ((s.fn x.1 x.2, ()), ())⟩
abbrev LSpecs := FuncId → Option LSpec
def LSpecsOk (P : Program) (L : LSpecs) : Prop := ∀ f s, L f = some s → PSound P f s.p ∧ FnOk P f

def castF (a b a' b' : Ty) (p : a.den → b.den) : Option (a'.den → b'.den) :=
  match decEq a a', decEq b b' with
  | isTrue h, isTrue h' => h ▸ h' ▸ some p
  | _, _ => none
def readArg (h : Heap) (own : Bool) : (k : AK) → V → Option k.den
  | .d t, v => match shapeV t v with
    | true => match toDen h own t v.cells with
      | some (x, []) => some x
      | _ => none
    | false => none
  | .bx t, .ptr id 0 => match own with
    | true => match lookN h id with
      | some (.box cs) => match toDen h true t cs with
        | some (x, []) => some x
        | _ => none
      | _ => none
    | false => none
  | .bx t, .rp cs => match Nat.ble t.cells cs.length with
    | true => match toDen h own t (cs.take t.cells) with
      | some (x, []) => some x
      | _ => none
    | false => none
  | .lam a b, .lam a' b' p => castF a' b' a b p
  | _, _ => none
def readCaps (h : Heap) (own : Bool) : (l : List AK) → List V → Option (ADen l)
  | [], [] => some ()
  | k :: r, v :: vs => match readArg h own k v with
    | some x => match readCaps h own r vs with
      | some y => some (x, y)
      | none => none
    | none => none
  | _, _ => none
def readFn (L : LSpecs) (h : Heap) (own : Bool) (a b : Ty) : V → Option (a.den → b.den)
  | .fn f caps => match L f with
    | some s => match readCaps h own s.caps caps with
      | some c => castF s.a s.b a b fun x => s.fn x c
      | none => none
    | none => none
  | _ => none
def readAny (L : LSpecs) (h : Heap) (own : Bool) (k : AK) (v : V) : Option k.den :=
  match k with
  | .lam a b => match v with
    | .fn f caps => readFn L h own a b (.fn f caps)
    | v => readArg h own (.lam a b) v
  | .d t => readArg h own (.d t) v
  | .bx t => readArg h own (.bx t) v
def readArgs (L : LSpecs) (h : Heap) (own : Bool) : (l : List AK) → List V → Option (ADen l)
  | [], [] => some ()
  | k :: r, v :: vs => match readAny L h own k v with
    | some x => match readArgs L h own r vs with
      | some y => some (x, y)
      | none => none
    | none => none
  | _, _ => none
def flatRK : RK → Bool
  | .d t => t.flat
  | .o _ e => e.flat
def flatRes (l : List RS) : Bool := l.all fun r => r.ps.all flatRK
def runQ (L : LSpecs) (s : PSpec) (args : List V) (h : Heap) (fresh : Nat) : R :=
  match readArgs L h (flatRes s.res) s.args args with
  | some xs => some ([s.pre xs], resV s.res (s.fn xs) fresh, rsH s.res (s.fn xs) fresh)
  | none => none
/-- Arguments that are own slices frozen ahead of the call. -/
def argCells : List AK → List V → List V
  | .d _ :: r, v :: vs => v.cells ++ argCells r vs
  | _ :: r, _ :: vs => argCells r vs
  | _, _ => []
def runL (L : LSpecs) (s : PSpec) (args : List V) (h : Heap) (fresh : Nat) : R :=
  match runQ L s args (freezeAll h (argCells s.args args)) fresh with
  | some (c, v, news) => some (c, v, news ++ freezeAll h (argCells s.args args))
  | none => none
def PSpec.spec (L : LSpecs) (s : PSpec) : Spec := ⟨runQ L s, runL L s, noK⟩

section
variable {C : Cx} {w w' : World} {g g' : Gh} {h : Heap} {T : Tab} {S : Specs} {N n : Nat} {L : LSpecs}

def Fcall (w : World) (g : Gh) (own : Bool) (b : Nat) : Prop := g.F b ∨ (own = true ∧ b < w.heap.size)

theorem castF_eq {a b a' b' : Ty} {p : a.den → b.den} {q : a'.den → b'.den} (hs : castF a b a' b' p = some q) : ∃ (h : a = a') (h' : b = b'), (h ▸ h' ▸ p : a'.den → b'.den) = q := by
  unfold castF at hs
  split at hs
  · rename_i h h' _ _
    subst h; subst h'
    simp at hs
    exact ⟨rfl, rfl, hs⟩
  · simp at hs

theorem RV_shape {t : Ty} {v : V} {x : Value} (hsh : shapeV t v = true) (hv : RV C w g v x) : v.cells.all V.one = true ∧ shape t x := by
  cases t <;> simp only [shapeV] at hsh
  case pair =>
    cases v <;> simp only [Bool.false_eq_true] at hsh
    simp only [RV] at hv
    obtain ⟨vs, rfl, hvs⟩ := hv
    exact ⟨by simpa [V.cells] using hsh, _, rfl⟩
  all_goals
    have hone : v.cells = [v] := by cases v <;> simp [V.one, V.cells] at hsh ⊢
    exact ⟨by rw [hone]; simpa using hsh, RV_one hsh hv⟩

theorem toDen_nil (R : RelH C h w g) {own : Bool} {t : Ty} {cs : List V} {x : t.den} {vs : List Value} (hs : toDen h own t cs = some (x, [])) (hv : RVs C w g cs vs) : rep w (Fcall w g own) t x vs := by
  obtain ⟨us, ts, rfl, h1, h2⟩ := toDen_sound R t cs x [] vs hs hv
  simp only [RVs] at h2
  subst h2
  rw [List.append_nil]
  exact rep_mono (fun b hb => ⟨hb, rfl⟩) t x us h1

theorem LamOk.move {P : Program} {w0 w1 : World} {K K' F F' : Nat → Prop} {a b : Ty} {p : a.den → b.den} {v : Value} (hl : LamOk P w0 K F a b p v) (hK : ∀ c, K c → K' c ∧ w1.heap[c]? = w0.heap[c]?) (hs : w0.heap.size ≤ w1.heap.size) (hF : ∀ c, F c → F' c) : LamOk P w1 K' F' a b p v := by
  obtain ⟨f, caps, h1, h2, h3⟩ := hl
  exact ⟨f, caps, h1, h2, fun w' F'' x xv hk hsz hf => h3 w' F'' x xv (fun c hc => (hk c (hK c hc).1).trans (hK c hc).2) (Nat.le_trans hs hsz) (fun c hc => hf c (hF c hc))⟩

theorem readArg_sound (R : RelH C h w g) {own : Bool} {k : AK} {v : V} {x : k.den} {u : Value} (hs : readArg h own k v = some x) (hv : RV C w g v u) : RV (Cx.at C.P w (Fcall w g own)) w (Gh.at (Fcall w g own)) (k.v x) u := by
  cases k with
  | d t =>
    simp only [readArg] at hs
    split at hs
    · rename_i hsh
      split at hs
      · rename_i y hd
        simp at hs; subst hs
        obtain ⟨h1, h2⟩ := RV_shape hsh hv
        exact RV_vOfDen t y u (toDen_nil R hd (RV_cells hv h1)) h2
      · simp at hs
    · simp at hs
  | bx t =>
    cases v <;> simp only [readArg] at hs
    all_goals try (simp at hs; done)
    case ptr id col =>
      cases col with
      | succ n => simp [readArg] at hs
      | zero =>
        simp only [readArg] at hs
        cases own
        · simp at hs
        simp only at hs
        split at hs
        · rename_i cs hl
          split at hs
          · rename_i y hd
            simp at hs; subst hs
            obtain ⟨blk, vs, te, q1, q2, q3, q4, q5⟩ := (R.obj id _ hl).2
            simp only [RV] at hv
            obtain ⟨_, a, q6, rfl⟩ := hv
            rw [q1] at q6; simp at q6; subst q6
            have hrep := toDen_nil R hd q3
            simp only [AK.v, RV]
            refine ⟨⟨blk, 0, none⟩, vs, by simp [Addr.add], .inr ⟨rfl, ?_⟩, fun j z hz => ?_, RVs_ofDen t y vs hrep⟩
            · exact (Array.getElem?_eq_some_iff.1 q2).1
            · have hj : j < vs.length := (List.getElem?_eq_some_iff.1 hz).1
              cases j with
              | zero => simp only [Addr.add, World.cell?]; simp [q2]; simpa [hj] using hz
              | succ j => simp only [Addr.add, World.cell?]; simp [q2]; simpa [hj] using hz
          · simp at hs
        · simp at hs
    case rp cs =>
      split at hs
      · rename_i hle
        split at hs
        · rename_i y hd
          simp at hs; subst hs
          simp only [RV] at hv
          obtain ⟨a, vs, rfl, q2, q3, q4⟩ := hv
          have hrep := toDen_nil R hd (RVs_take t.cells q4)
          simp only [AK.v, RV]
          refine ⟨a, vs.take t.cells, rfl, .inl q2, fun j z hz => q3 j z ?_, RVs_ofDen t y _ hrep⟩
          rw [List.getElem?_take] at hz
          split at hz
          · exact hz
          · cases hz
        · simp at hs
      · simp at hs
  | lam a b =>
    cases v <;> simp only [readArg] at hs
    all_goals try (simp at hs; done)
    case lam a' b' p =>
      obtain ⟨rfl, rfl, rfl⟩ := castF_eq hs
      simp only [AK.v, RV] at hv ⊢
      exact LamOk.move hv (fun c hc => ⟨⟨Nat.lt_of_lt_of_le (R.lam.1 c hc).1.1 R.size, fun h => h⟩, (R.keep c (R.lam.1 c hc).1).trans (R.lam.1 c hc).2⟩) (Nat.le_trans R.lam.2 R.size) (fun c hc => .inl hc)
theorem readCaps_sound (R : RelH C h w g) {own : Bool} : ∀ (l : List AK) (vs : List V) (x : ADen l) (us : List Value), readCaps h own l vs = some x → RVs C w g vs us → RVs (Cx.at C.P w (Fcall w g own)) w (Gh.at (Fcall w g own)) (argsV l x) us
  | [], [], x, us, _, hv => by simp only [RVs] at hv; subst hv; simp [argsV, RVs]
  | [], _ :: _, x, us, hs, _ => by simp [readCaps] at hs
  | _ :: _, [], x, us, hs, _ => by simp [readCaps] at hs
  | k :: r, v :: vs, x, us, hs, hv => by
    simp only [readCaps] at hs
    split at hs
    · rename_i y hy
      split at hs
      · rename_i z hz
        simp at hs; subst hs
        simp only [RVs] at hv
        obtain ⟨u, us', rfl, h1, h2⟩ := hv
        simp only [argsV, RVs]
        exact ⟨u, us', rfl, readArg_sound R hy h1, readCaps_sound R r vs z us' hz h2⟩
      · simp at hs
    · simp at hs

/-- What stands at a call stands later, too. -/
theorem argV_later {P : Program} {F F' : Nat → Prop} (hF : ∀ b, F b → F' b ∧ w'.heap[b]? = w.heap[b]?) (hk : ∀ b, b < w.heap.size → w'.heap[b]? = w.heap[b]?) (hsz : w.heap.size ≤ w'.heap.size) (k : AK) (x : k.den) (u : Value)
    (hv : RV (Cx.at P w F) w (Gh.at F) (k.v x) u) : RV (Cx.at P w' F') w' (Gh.at F') (k.v x) u := by
  have ofD : ∀ (t : Ty) (y : t.den) (us : List Value), RVs (Cx.at P w F) w (Gh.at F) (ofDen t y) us → RVs (Cx.at P w' F') w' (Gh.at F') (ofDen t y) us := by
    intro t
    induction t with
    | bool => intro y us h; simpa [ofDen, RVs, RV] using h
    | int k => intro y us h; simpa [ofDen, RVs, RV] using h
    | str => intro y us h; simpa [ofDen, RVs, RV] using h
    | slice e ih =>
      intro y us h
      simp only [ofDen, RVs, RV] at h ⊢
      obtain ⟨z, zs, h1, h2, h3⟩ := h
      exact ⟨z, zs, h1, rep_mono hF _ _ _ h2, h3⟩
    | pair a b iha ihb =>
      intro y us h
      simp only [ofDen] at h ⊢
      obtain ⟨us1, us2, rfl, h1, h2⟩ := RVs_split h
      exact RVs_append (iha _ _ h1) (ihb _ _ h2)
  cases k with
  | d t =>
    cases t <;> simp only [AK.v, vOfDen] at hv ⊢
    · simpa [RV] using hv
    · simpa [RV] using hv
    · simpa [RV] using hv
    · simp only [RV] at hv ⊢; exact rep_mono hF _ _ _ hv
    · rename_i a b
      simp only [RV] at hv ⊢
      obtain ⟨vs, h1, h2⟩ := hv
      exact ⟨vs, h1, ofD (.pair a b) x vs h2⟩
  | bx t =>
    simp only [AK.v, RV] at hv ⊢
    obtain ⟨a, vs, h1, h2, h3, h4⟩ := hv
    refine ⟨a, vs, h1, (hF _ h2).1, fun j z hz => ?_, ofD t x vs h4⟩
    have := h3 j z hz
    rw [← this]
    unfold World.cell?
    rw [add_block, (hF _ h2).2]
  | lam a b =>
    simp only [AK.v, RV] at hv ⊢
    exact LamOk.move hv (fun c hc => ⟨⟨Nat.lt_of_lt_of_le hc.1 hsz, fun h => h⟩, hk c hc.1⟩) hsz (fun c hc => (hF c hc).1)
theorem argsV_later {P : Program} {F F' : Nat → Prop} (hF : ∀ b, F b → F' b ∧ w'.heap[b]? = w.heap[b]?) (hk : ∀ b, b < w.heap.size → w'.heap[b]? = w.heap[b]?) (hsz : w.heap.size ≤ w'.heap.size) :
    ∀ (l : List AK) (x : ADen l) (us : List Value), RVs (Cx.at P w F) w (Gh.at F) (argsV l x) us → RVs (Cx.at P w' F') w' (Gh.at F') (argsV l x) us
  | [], x, us, h => by simpa [argsV, RVs] using h
  | k :: r, x, us, h => by
    simp only [argsV, RVs] at h ⊢
    obtain ⟨z, zs, h1, h2, h3⟩ := h
    exact ⟨z, zs, h1, argV_later hF hk hsz k x.1 z h2, argsV_later hF hk hsz r x.2 zs h3⟩

theorem rep_ofDen : ∀ (t : Ty) (y : t.den) (us : List Value), RVs C w g (ofDen t y) us → rep w g.F t y us
  | .bool, y, us, h => by
    simp only [ofDen, RVs, RV] at h
    obtain ⟨x, xs, rfl, rfl, rfl⟩ := h
    simp [rep]
  | .int k, y, us, h => by
    simp only [ofDen, RVs, RV] at h
    obtain ⟨x, xs, rfl, ⟨rfl, h1⟩, rfl⟩ := h
    simp [rep]; exact h1
  | .str, y, us, h => by
    simp only [ofDen, RVs, RV] at h
    obtain ⟨x, xs, rfl, ⟨rfl, h1⟩, rfl⟩ := h
    simp [rep]; exact h1
  | .slice e, y, us, h => by
    simp only [ofDen, RVs, RV] at h
    obtain ⟨x, xs, rfl, h1, rfl⟩ := h
    exact h1
  | .pair a b, y, us, h => by
    simp only [ofDen] at h
    obtain ⟨us1, us2, rfl, h1, h2⟩ := RVs_split h
    simp only [rep]
    exact ⟨us1, us2, rfl, rep_ofDen a _ _ h1, rep_ofDen b _ _ h2⟩
theorem RV_vOfDen_out (t : Ty) (y : t.den) (u : Value) (h : RV C w g (oneV (isPair t) (ofDen t y ++ [])) u) : shape t u ∧ rep w g.F t y u.cells.toList := by
  rw [List.append_nil] at h
  cases t
  case pair a b =>
    simp only [isPair, oneV, RV] at h
    obtain ⟨vs, rfl, h2⟩ := h
    exact ⟨⟨_, rfl⟩, by simpa [Value.cells] using rep_ofDen (.pair a b) y vs h2⟩
  case slice e =>
    simp only [isPair, oneV, ofDen, RV] at h
    have h' := h
    simp only [rep] at h
    obtain ⟨A, cap, h1, _⟩ := h
    simp at h1; subst h1
    exact ⟨rfl, by simpa [Value.cells] using h'⟩
  all_goals
    simp only [isPair, oneV, ofDen, RV] at h
  · subst h; exact ⟨rfl, by simp [Value.cells, rep]⟩
  · obtain ⟨rfl, h1⟩ := h; exact ⟨rfl, by simp [Value.cells, rep]; exact h1⟩
  · obtain ⟨rfl, h1⟩ := h; exact ⟨rfl, by simp [Value.cells, rep]; exact h1⟩

theorem readFn_sound (hL : LSpecsOk C.P L) (R : RelH C h w g) {own : Bool} {a b : Ty} {v : V} {p : a.den → b.den} {u : Value} (hs : readFn L h own a b v = some p) (hv : RV C w g v u) : RV (Cx.at C.P w (Fcall w g own)) w (Gh.at (Fcall w g own)) (.lam a b p) u := by
  cases v <;> simp only [readFn] at hs
  all_goals try (simp at hs; done)
  case fn f caps =>
    split at hs
    · rename_i s hf
      split at hs
      · rename_i c hc
        obtain ⟨rfl, rfl, rfl⟩ := castF_eq hs
        simp only [RV] at hv
        obtain ⟨vs, rfl, hvs⟩ := hv
        obtain ⟨hsound, hfn⟩ := hL f s hf
        have hcaps := readCaps_sound R s.caps caps c vs hc hvs
        simp only [RV, LamOk]
        refine ⟨f, vs.toArray, rfl, hfn, fun w1 F1 x xv hk hsz hF hFs hsh hrep => ?_⟩
        have hkeep : ∀ b, b < w.heap.size → w1.heap[b]? = w.heap[b]? := fun b hb => hk b ⟨hb, fun h => h⟩
        have hFc : ∀ b, Fcall w g own b → b < w.heap.size := fun b hb => hb.elim (R.F b) (fun h => h.2)
        have hargs : RVs (Cx.at C.P w1 F1) w1 (Gh.at F1) (argsV s.p.args (x, c)) (xv :: vs) := by
          simp only [LSpec.p, argsV, RVs]
          exact ⟨xv, vs, rfl, RV_vOfDen s.a x xv hrep hsh, argsV_later (fun b hb => ⟨hF b hb, hkeep b (hFc b hb)⟩) hkeep hsz _ _ _ hcaps⟩
        have := hsound w1 F1 (x, c) (xv :: vs) hFs hargs trivial
        have hav : (#[xv] ++ vs.toArray) = (xv :: vs).toArray := by apply Array.ext'; simp
        rw [hav]
        refine this.mono fun e w2 ⟨r, g2, h1, q⟩ => ?_
        have hval := q.val
        simp only [LSpec.p, resV, rsV, rsOf, psV] at hval
        obtain ⟨h2, h3⟩ := RV_vOfDen_out s.b _ r hval
        exact ⟨r, h1, q.below, h2, rep_mono (fun b hb => ⟨q.Fnew b hb, rfl⟩) _ _ _ h3⟩
      · simp at hs
    · simp at hs
theorem readAny_sound (hL : LSpecsOk C.P L) (R : RelH C h w g) {own : Bool} {k : AK} {v : V} {x : k.den} {u : Value} (hs : readAny L h own k v = some x) (hv : RV C w g v u) : RV (Cx.at C.P w (Fcall w g own)) w (Gh.at (Fcall w g own)) (k.v x) u := by
  cases k with
  | lam a b =>
    cases v <;> first | (simp only [readAny] at hs; exact readFn_sound hL R hs hv) | (simp only [readAny] at hs; exact readArg_sound R hs hv)
  | d t => exact readArg_sound R hs hv
  | bx t => exact readArg_sound R hs hv
theorem readArgs_sound (hL : LSpecsOk C.P L) (R : RelH C h w g) {own : Bool} : ∀ (l : List AK) (vs : List V) (x : ADen l) (us : List Value), readArgs L h own l vs = some x → RVs C w g vs us → RVs (Cx.at C.P w (Fcall w g own)) w (Gh.at (Fcall w g own)) (argsV l x) us
  | [], [], x, us, _, hv => by simp only [RVs] at hv; subst hv; simp [argsV, RVs]
  | [], _ :: _, x, us, hs, _ => by simp [readArgs] at hs
  | _ :: _, [], x, us, hs, _ => by simp [readArgs] at hs
  | k :: r, v :: vs, x, us, hs, hv => by
    simp only [readArgs] at hs
    split at hs
    · rename_i y hy
      split at hs
      · rename_i z hz
        simp at hs; subst hs
        simp only [RVs] at hv
        obtain ⟨u, us', rfl, h1, h2⟩ := hv
        simp only [argsV, RVs]
        exact ⟨u, us', rfl, readAny_sound hL R hy h1, readArgs_sound hL R r vs z us' hz h2⟩
      · simp at hs
    · simp at hs

/-! ## What comes back, in the caller's names -/
def upG (g g' : Gh) (w : World) (fresh : Nat) : Gh :=
  ⟨fun id => if fresh ≤ id ∧ id < fresh + 8 then g'.anch (id - fresh) else g.anch id, fun b => g.F b ∨ (g'.F b ∧ w.heap.size ≤ b), fun id => g.U id ∨ (fresh ≤ id ∧ id < fresh + 8 ∧ g'.U (id - fresh))⟩

section
variable {own : Bool} {fresh : Nat} {g1 : Gh}
theorem up_anch {k : Nat} (hk : k < 8) : (upG g g1 w fresh).anch (fresh + k) = g1.anch k := by simp [upG, hk]
theorem up_U {k : Nat} (hk : k < 8) (hU : g1.U k) : (upG g g1 w fresh).U (fresh + k) := .inr ⟨by omega, by omega, by rw [Nat.add_sub_cancel_left]; exact hU⟩
/-- Data that comes back: from what was frozen, or flat. -/
theorem rep_up (hF : ∀ b, g1.F b → Fcall w g own b ∨ (w.heap.size ≤ b ∧ b < w'.heap.size)) (t : Ty) (ht : own = true → t.flat = true) (y : t.den) (us : List Value) (h : rep w' g1.F t y us) : rep w' (upG g g1 w fresh).F t y us := by
  cases own
  · refine rep_mono (fun b hb => ⟨?_, rfl⟩) t y us h
    rcases hF b hb with h1 | h1
    · rcases h1 with h1 | h1
      · exact .inl h1
      · cases h1.1
    · exact .inr ⟨hb, h1.1⟩
  · exact rep_flat t y us (ht rfl) h
theorem reps_up (hF : ∀ b, g1.F b → Fcall w g own b ∨ (w.heap.size ≤ b ∧ b < w'.heap.size)) (t : Ty) (ht : own = true → t.flat = true) : ∀ (ys : List t.den) (us : List Value) (h : reps w' g1.F t ys us), reps w' (upG g g1 w fresh).F t ys us
  | [], _, h => h
  | y :: ys, _, ⟨c, r, h0, h1, h2⟩ => ⟨c, r, h0, rep_up hF t ht y c h1, reps_up hF t ht ys r h2⟩

theorem psV_up {C' : Cx} (hF : ∀ b, g1.F b → Fcall w g own b ∨ (w.heap.size ≤ b ∧ b < w'.heap.size)) : ∀ (l : List RK) (hl : own = true → l.all flatRK = true) (x : PDen l) (k : Nat) (us : List Value), k + psN l ≤ 8 → RVs C' w' g1 (psV l x k) us → RVs C w' (upG g g1 w fresh) (psV l x (fresh + k)) us
  | [], _, x, k, us, _, h => by simpa [psV, RVs] using h
  | .d t :: r, hl, x, k, us, hk, h => by
    simp only [psV] at h ⊢
    obtain ⟨us1, us2, rfl, h1, h2⟩ := RVs_split h
    refine RVs_append (RVs_ofDen t _ _ (rep_up hF t (fun ho => ?_) _ _ (rep_ofDen t _ _ h1))) (psV_up hF r (fun ho => ?_) _ k us2 (by simpa [psN] using hk) h2)
    · have := hl ho; simp only [List.all_cons, Bool.and_eq_true] at this; exact this.1
    · have := hl ho; simp only [List.all_cons, Bool.and_eq_true] at this; exact this.2
  | .o te e :: r, hl, x, k, us, hk, h => by
    simp only [psV, RVs] at h ⊢
    obtain ⟨u, us', rfl, h1, h2⟩ := h
    simp only [psN] at hk
    refine ⟨u, us', rfl, ?_, psV_up hF r (fun ho => ?_) _ (k + 1) us' (by omega) h2⟩
    · simp only [RV] at h1 ⊢
      exact ⟨up_U (by omega) h1.1, by rw [up_anch (by omega)]; exact h1.2.1, h1.2.2⟩
    · have := hl ho; simp only [List.all_cons, Bool.and_eq_true] at this; exact this.2
theorem rsV_up {C' : Cx} (hF : ∀ b, g1.F b → Fcall w g own b ∨ (w.heap.size ≤ b ∧ b < w'.heap.size)) : ∀ (l : List RS) (hl : own = true → flatRes l = true) (x : RDen l) (k : Nat) (us : List Value), k + rsN l ≤ 8 → RVs C' w' g1 (rsV l x k) us → RVs C w' (upG g g1 w fresh) (rsV l x (fresh + k)) us
  | [], _, x, k, us, _, h => by simpa [rsV, RVs] using h
  | r :: rs, hl, x, k, us, hk, h => by
    simp only [rsV, RVs] at h ⊢
    simp only [rsN] at hk
    obtain ⟨u, us', rfl, h1, h2⟩ := h
    have h2' := rsV_up hF rs (fun ho => by have := hl ho; simp only [flatRes, List.all_cons, Bool.and_eq_true] at this; exact this.2) x.2 (k + psN r.ps) us' (by omega) h2
    refine ⟨u, us', rfl, ?_, by rw [← Nat.add_assoc] at h2'; exact h2'⟩
    have up := fun us => psV_up (C := C) (fresh := fresh) (C' := C') hF r.ps (fun ho => by have := hl ho; simp only [flatRes, List.all_cons, Bool.and_eq_true] at this; exact this.1) x.1 k us (by omega)
    have hlen : (psV r.ps x.1 k).length = (psV r.ps x.1 (fresh + k)).length := by
      have : ∀ (l : List RK) (y : PDen l) (a b : Nat), (psV l y a).length = (psV l y b).length := by
        intro l
        induction l with
        | nil => intro y a b; rfl
        | cons q qs ih => intro y a b; cases q <;> simp only [psV, List.length_append, List.length_cons] <;> rw [ih _ _ _]
      exact this _ _ _ _
    cases hag : r.agg <;> rw [hag] at h1
    · simp only [oneV] at h1 ⊢
      split at h1
      · rename_i c hc
        have := up [u] (by rw [hc]; simp only [RVs]; exact ⟨u, [], rfl, h1, rfl⟩)
        rw [hc] at hlen
        match hq : psV r.ps x.1 (fresh + k), hlen with
        | [c'], _ => rw [hq] at this; simpa [RVs] using this
      · rename_i hne
        split
        · rename_i c' hc'
          rw [hc'] at hlen
          match hq : psV r.ps x.1 k, hlen with
          | [c], _ => exact absurd hq (hne c)
        · simp [RV]
    · simp only [oneV, RV] at h1 ⊢
      obtain ⟨vs, rfl, hvs⟩ := h1
      exact ⟨vs, rfl, up vs hvs⟩
theorem psH_up : ∀ (l : List RK) (x : PDen l) (k id : Nat) (o : Obj), lookN (psH l x (fresh + k)) id = some o → ∃ j, id = fresh + j ∧ k ≤ j ∧ j < k + psN l ∧ lookN (psH l x k) j = some o ∧ ∃ te e xs, o = .arr te e xs ∧ (l.all flatRK = true → e.flat = true)
  | [], x, k, id, o, h => by simp [psH, lookN] at h
  | .d t :: r, x, k, id, o, h => by
    simp only [psH] at h ⊢
    obtain ⟨j, h1, h2, h3, h4, te, e, xs, h5, h6⟩ := psH_up r x.2 k id o h
    exact ⟨j, h1, h2, by simpa [psN] using h3, h4, te, e, xs, h5, fun h => h6 (by simp only [List.all_cons, Bool.and_eq_true] at h; exact h.2)⟩
  | .o te e :: r, x, k, id, o, h => by
    simp only [psH, lookN] at h ⊢
    cases hb : Nat.beq (fresh + k) id
    · rw [hb] at h
      obtain ⟨j, h1, h2, h3, h4, te', e', xs, h5, h6⟩ := psH_up r x.2 (k + 1) id o h
      refine ⟨j, h1, by omega, by simp only [psN]; omega, ?_, te', e', xs, h5, fun h => h6 (by simp only [List.all_cons, Bool.and_eq_true] at h; exact h.2)⟩
      have : Nat.beq k j = false := by cases hq : Nat.beq k j; rfl; have := Nat.eq_of_beq_eq_true hq; omega
      rw [this]; exact h4
    · rw [hb] at h
      obtain rfl := Nat.eq_of_beq_eq_true hb
      simp at h; subst h
      exact ⟨k, rfl, Nat.le_refl _, by simp only [psN]; omega, by simp, te, e, x.1, rfl, fun h => by simp only [List.all_cons, Bool.and_eq_true] at h; exact h.1⟩
theorem rsH_up : ∀ (l : List RS) (x : RDen l) (k id : Nat) (o : Obj), lookN (rsH l x (fresh + k)) id = some o → ∃ j, id = fresh + j ∧ k ≤ j ∧ j < k + rsN l ∧ lookN (rsH l x k) j = some o ∧ ∃ te e xs, o = .arr te e xs ∧ (flatRes l = true → e.flat = true)
  | [], x, k, id, o, h => by simp [rsH, lookN] at h
  | r :: rs, x, k, id, o, h => by
    simp only [rsH] at h ⊢
    rw [lookN_app] at h
    cases hq : lookN (psH r.ps x.1 (fresh + k)) id with
    | some o' =>
      rw [hq] at h; simp at h; subst h
      obtain ⟨j, h1, h2, h3, h4, te, e, xs, h5, h6⟩ := psH_up r.ps x.1 k id o' hq
      exact ⟨j, h1, h2, by simp only [rsN]; omega, by rw [lookN_app, h4], te, e, xs, h5, fun h => h6 (by simp only [flatRes, List.all_cons, Bool.and_eq_true] at h; exact h.1)⟩
    | none =>
      rw [hq, Nat.add_assoc] at h
      obtain ⟨j, h1, h2, h3, h4, te, e, xs, h5, h6⟩ := rsH_up rs x.2 (k + psN r.ps) id o h
      refine ⟨j, h1, by omega, by simp only [rsN]; omega, ?_, te, e, xs, h5, fun h => h6 (by simp only [flatRes, List.all_cons, Bool.and_eq_true] at h ⊢; exact h.2)⟩
      rw [lookN_app]
      have : lookN (psH r.ps x.1 k) j = none := by
        cases hp : lookN (psH r.ps x.1 k) j with
        | none => rfl
        | some o' =>
          have := psH_up (fresh := 0) r.ps x.1 k j o' (by simpa using hp)
          obtain ⟨i, i1, i2, i3, _⟩ := this
          omega
      rw [this]; exact h4
end

theorem pcall (hL : LSpecsOk C.P L) {f : FuncId} {s : PSpec} (hp : PSound C.P f s) (h8 : rsN s.res ≤ 8) {fresh : Nat} (R : RelH C h w g) (hf : FreshIds g fresh) {args : List V} {vals : List Value} (hv : RVs C w g args vals) {c : List Prop} {v : V} {news : Heap}
    (hs : runQ L s args h fresh = some (c, v, news)) (hc : ∀ p ∈ c, p) : Calls C.P f vals.toArray w fun e w' => ∃ x g', e = .returned x ∧ QRes C w g fresh v news x w' g' := by
  unfold runQ at hs
  split at hs
  · rename_i xs hxs
    simp only [Option.some.injEq, Prod.mk.injEq] at hs
    obtain ⟨rfl, rfl, rfl⟩ := hs
    have hargs := readArgs_sound hL R s.args args xs vals hxs hv
    have hFc : ∀ b, Fcall w g (flatRes s.res) b → b < w.heap.size := fun b hb => hb.elim (R.F b) (fun h => h.2)
    refine (hp w _ xs vals hFc hargs (hc _ (by simp))).mono fun e w' ⟨x, g1, he, q⟩ => ⟨x, upG g g1 w fresh, he, ?_⟩
    have hF : ∀ b, g1.F b → Fcall w g (flatRes s.res) b ∨ (w.heap.size ≤ b ∧ b < w'.heap.size) := q.Fnew
    refine ⟨q.below, fun b hb => .inl hb, fun b hb => ?_, fun id hU => ⟨.inl hU, ?_⟩, fun id hU => ?_, ?_, fun id o ho => ?_, fun id o id' o' b h1 h2 m1 m2 hb1 hb2 => ?_⟩
    · rcases hb with hb | hb
      · exact .inl hb
      · rcases hF b hb.1 with h1 | h1
        · have := hFc b h1; omega
        · exact .inr h1
    · simp only [upG]
      rw [if_neg]
      intro h1
      exact hf id h1.1 h1.2 hU
    · rcases hU with h1 | h1
      · exact .inl h1
      · exact .inr ⟨h1.1, h1.2.1⟩
    · have hval := q.val
      unfold resV at hval ⊢
      have up := fun us => rsV_up (C := C) (C' := Cx.at C.P w (Fcall w g (flatRes s.res))) (g := g) (fresh := fresh) hF s.res (fun h => h) (s.fn xs) 0 us (by omega)
      have hlen : ∀ (l : List RS) (y : RDen l) (a b : Nat), (rsV l y a).length = (rsV l y b).length := by
        intro l
        induction l with
        | nil => intro y a b; rfl
        | cons r rs ih => intro y a b; simp only [rsV, List.length_cons]; rw [ih _ _ _]
      have hl := hlen s.res (s.fn xs) 0 (fresh + 0)
      rw [Nat.add_zero] at hl up
      split at hval
      · rename_i u hu
        have := up [x] (by rw [hu]; simp only [RVs]; exact ⟨x, [], rfl, hval, rfl⟩)
        rw [hu] at hl
        match hq : rsV s.res (s.fn xs) fresh, hl with
        | [c'], _ => rw [hq] at this; simpa [RVs] using this
      · rename_i hne
        split
        · rename_i c' hc'
          rw [hc'] at hl
          match hq : rsV s.res (s.fn xs) 0, hl with
          | [c], _ => exact absurd hq (hne c)
        · simp only [RV] at hval ⊢
          obtain ⟨us, rfl, hus⟩ := hval
          exact ⟨us, rfl, up us hus⟩
    · obtain ⟨j, rfl, _, hj, hl, te, e, ys, rfl, hfl⟩ := rsH_up s.res (s.fn xs) 0 id o ho
      obtain ⟨_, hU, hRO, hblk⟩ := q.neu j _ hl
      have hj8 : j < 8 := by omega
      refine ⟨⟨by omega, by omega⟩, up_U hj8 hU, ?_, fun b hb => hblk b (by rw [up_anch hj8] at hb; exact hb)⟩
      simp only [RO] at hRO ⊢
      obtain ⟨cells, h1, h2, h3, h4⟩ := hRO
      refine ⟨cells, by rw [up_anch hj8]; exact h1, reps_up hF e hfl ys cells h2, h3, fun b hb => ?_⟩
      rw [up_anch hj8] at hb
      have h5 := h4 b hb
      have h6 := hblk b hb
      refine ⟨.inr (Nat.le_trans R.size h6), fun hF' => ?_⟩
      rcases hF' with hF' | hF'
      · have := R.F b hF'; omega
      · exact h5.2 hF'.1
    · obtain ⟨j, rfl, _, hj, hl, _⟩ := rsH_up s.res (s.fn xs) 0 id o h1
      obtain ⟨j', rfl, _, hj', hl', _⟩ := rsH_up s.res (s.fn xs) 0 id' o' h2
      rw [up_anch (by omega)] at hb1 hb2
      rw [q.sep j o j' o' b hl hl' m1 m2 hb1 hb2]
  · simp at hs

theorem PSpec.ok {P : Program} {L : LSpecs} (hL : LSpecsOk P L) {f : FuncId} {s : PSpec} (hp : PSound P f s) (h8 : rsN s.res ≤ 8) : SpecOk P f (s.spec L) := by
  refine ⟨fun C w g h fresh args vals c v news hP R hf hv hs hc => ?_, fun C w g h fresh args vals c v h' hP R hf hv hs hc => ?_, fun C w g h fresh args vals K hP R hf hu hv hs => hs.elim⟩
  · subst hP
    exact pcall hL hp h8 R hf hv hs hc
  · subst hP
    simp only [PSpec.spec, runL] at hs
    split at hs
    · rename_i c1 v1 news hq
      simp only [Option.some.injEq, Prod.mk.injEq] at hs
      obtain ⟨rfl, rfl, rfl⟩ := hs
      obtain ⟨F1, R1, e1, _⟩ := freezeAll_sound (w := w) (argCells s.args args) h g R
      have hv1 : RVs C w ⟨g.anch, F1, g.U⟩ args vals := RVs_mono e1 _ _ hv
      refine (pcall hL hp h8 R1 hf hv1 hq hc).mono fun e w' ⟨x, g', he, q⟩ => ⟨x, g', he, ?_⟩
      have wr := q.wres R1
      exact ⟨wr.rel, e1.trans wr.evo, wr.val, wr.U⟩
    · simp at hs
end
end Go.Eng
