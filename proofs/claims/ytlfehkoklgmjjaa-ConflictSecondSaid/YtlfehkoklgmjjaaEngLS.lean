import Derived.Test.YtlfehkoklgmjjaaEngR
import Derived.SizedLaws
/- A law's row, where the body needs it that what comes in takes no more bytes than there may be. -/
set_option linter.unusedVariables false
set_option linter.unusedSimpArgs false
namespace Go.Eng
open Go.RowKit (Below)
open Go.RowKit Go.WideShapes Go.ChangeShapes Go.ChangeAt
/-- How many bytes the elements take. -/
inductive BT where
  | z | s | sl (b : Nat) (e : BT) | pr (a b : BT)
  deriving DecidableEq
def btFold (f : TypeId → BT) : List Field → BT
  | [] => .z
  | x :: r => match r with
    | [] => f x.type
    | _ => .pr (f x.type) (btFold f r)
def btArr (b : BT) : Nat → BT
  | 0 => .z
  | 1 => b
  | n + 1 => .pr b (btArr b n)
def lawBT (P : Program) : Nat → TypeId → BT
  | 0, _ => .z
  | n + 1, t => match P.underlying t with
    | some .string => .s
    | some (.slice e) => .sl (P.bytesOf e) (lawBT P n e)
    | some (.struct fs) => btFold (lawBT P n) fs.toList
    | some (.array m e) => btArr (lawBT P n e) m
    | _ => .z
def Sz : BT → (t : Ty) → t.den → Prop
  | .s, .str, l => l.length ≤ reachBytes
  | .sl b e, .slice t, xs => xs.length * b ≤ reachBytes ∧ ∀ x ∈ xs, Sz e t x
  | .pr a b, .pair s t, x => Sz a s x.1 ∧ Sz b t x.2
  | _, _, _ => True
def SzA : List BT → (l : List Ty) → ADen (l.map .d) → Prop
  | b :: bs, t :: r, x => Sz b t x.1 ∧ SzA bs r x.2
  | _, _, _ => True
section
variable {H : Type} {enc : TypeId × Value → H} {P : Program} {W : World} {base : Nat} {spare : Nat → Bool} {held : Bool}
theorem choose_list2 {α β : Type} {p : Nat → α → Prop} : ∀ (n : Nat), (∀ i, i < n → ∃ x, p i x) → ∃ xs : List α, xs.length = n ∧ ∀ i (h : i < xs.length), p i xs[i] := choose_list
theorem weightsAll_mem {P : Program} {e : TypeId} : ∀ {ds : List (DataW H)} {d : DataW H}, d ∈ ds → ∀ k ∈ d.weights P e, k ∈ DataW.weightsAll P e ds
  | d0 :: ds, d, hd, k, hk => by
    simp only [DataW.weightsAll, List.mem_append]
    rcases List.mem_cons.1 hd with rfl | hd
    · exact .inl hk
    · exact .inr (weightsAll_mem hd k hk)

theorem rep_of_trod_sz : ∀ (fuel n : Nat) (t : TypeId) (ty : Ty) (cs : List Value) (d : DataW H) (ps : List MemPlace), lawRow P n t = some ty → DataW.trod enc P W base spare held fuel t cs = some (d, ps) →
    ∃ x : ty.den, rep W (fun b => b < W.heap.size) ty x cs ∧ ((∀ k ∈ d.weights P t, k ≤ reachBytes) → Sz (lawBT P n t) ty x) := by
  intro fuel
  induction fuel with
  | zero => intro n t ty cs d ps _ h; simp [DataW.trod] at h
  | succ fuel ih =>
    intro n t ty cs d ps hl h
    cases n with
    | zero => simp [lawRow] at hl
    | succ n =>
      unfold lawBT
      unfold lawRow at hl
      unfold DataW.trod at h
      split at hl
      · -- bool
        rename_i hu
        simp at hl; subst hl
        rw [hu] at h
        split at h
        all_goals first | (cases h; done) | skip
        all_goals (rename_i q; cases q)
        exact ⟨_, rfl, fun _ => by rw [hu]; trivial⟩
      · -- int
        rename_i k hu
        simp at hl; subst hl
        rw [hu] at h
        split at h
        all_goals first | (cases h; done) | skip
        all_goals (rename_i q; cases q)
        rename_i n'
        split at h
        · rename_i hk
          obtain ⟨rfl, hk⟩ := hk
          refine ⟨n', ?_, fun _ => by rw [hu]; trivial⟩
          simp only [rep]
          refine ⟨by trivial, ?_⟩
          simpa [Lit.wf] using hk
        · cases h
      · -- string
        rename_i hu
        simp at hl; subst hl
        rw [hu] at h
        split at h
        all_goals first | (cases h; done) | skip
        all_goals (rename_i q; cases q)
        rename_i s
        split at h
        · rename_i hk
          simp only [Option.some.injEq, Prod.mk.injEq] at h
          refine ⟨s.data.toList, ?_, fun hw => ?_⟩
          · simp only [rep]
            exact ⟨by trivial, by rw [Array.length_toList]; exact hk⟩
          · rw [hu]
            show s.data.toList.length ≤ reachBytes
            exact hw _ (by rw [← h.1]; simp [DataW.weights])
        · cases h
      · -- slice
        rename_i e hu
        rw [hu] at h
        split at hl
        · rename_i a ha
          split at hl
          · rename_i hc
            simp at hl; subst hl
            split at h
            all_goals first | (cases h; done) | skip
            all_goals (rename_i q; cases q)
            · exact ⟨[], ⟨none, 0, rfl, by simp, by simp, fun _ => rfl, fun i hi => by simp at hi⟩, fun _ => by rw [hu]; exact ⟨by simp, fun x hx => by simp at hx⟩⟩
            · rename_i ad len cap
              dsimp only at h
              split at h
              · rename_i hle
                cases hm : (List.range len).mapM (fun i => (W.cells? base (ad.add (i * P.cellsOf e)) (P.cellsOf e)).bind (DataW.trod enc P W base spare held fuel e)) with
                | none => rw [hm] at h; simp at h
                | some els =>
                  obtain ⟨h1, h2⟩ := mapM_some hm
                  obtain ⟨xs, hx1, hx2⟩ := choose_list (p := fun i (x : a.den) => (∃ a' ci, some ad = some a' ∧ a'.block < W.heap.size ∧ (∀ (j : Nat) (v : Value), ci[j]? = some v → W.cell? (a'.add (i * a.cells + j)) = some v) ∧ rep W (fun b => b < W.heap.size) a x ci) ∧
                      ∃ y, els[i]? = some y ∧ ((∀ k ∈ y.1.weights P e, k ≤ reachBytes) → Sz (lawBT P n e) a x)) len (fun i hi => by
                    obtain ⟨y, q1, q2⟩ := h2 i i (by simp [hi])
                    cases hcs : W.cells? base (ad.add (i * P.cellsOf e)) (P.cellsOf e) with
                    | none => rw [hcs] at q2; simp at q2
                    | some ci =>
                      rw [hcs] at q2
                      simp only [Option.bind_some] at q2
                      obtain ⟨c1, c2⟩ := cells_of hcs
                      obtain ⟨x, hx, hsz⟩ := ih n e a ci y.1 y.2 ha q2
                      have hpos := cells_pos a
                      have hcell : ∃ v, ci[0]? = some v := ⟨ci[0]'(by omega), by simp⟩
                      obtain ⟨v, hv⟩ := hcell
                      have hb := cell_block (c2 0 v hv)
                      rw [add_block, add_block] at hb
                      exact ⟨x, ⟨ad, ci, rfl, hb, fun j v hj => by have := c2 j v hj; rw [add_add, ← hc] at this; exact this, hx⟩, y, q1, hsz⟩)
                  refine ⟨xs, ⟨some ad, cap, by simp [hx1], by omega, hle.2.2, by simp, fun i hi => (hx2 i hi).1⟩, fun hw => ?_⟩
                  rw [hu]
                  have hd : ∃ rest, d = .slice (els.map (·.1)) rest := by
                    rw [hm] at h
                    simp only [Option.bind_some] at h
                    split at h
                    · cases hr : (List.range (cap - len)).mapM (fun j => (W.cells? base (ad.add ((len + j) * P.cellsOf e)) (P.cellsOf e)).bind (DataW.trod enc P W base spare held fuel e)) with
                      | none => rw [hr] at h; simp at h
                      | some rest => rw [hr] at h; simp at h; exact ⟨_, h.1.symm⟩
                    · simp at h; exact ⟨_, h.1.symm⟩
                  obtain ⟨rest, rfl⟩ := hd
                  simp only [DataW.weights, hu, List.mem_cons, List.mem_append, List.length_map] at hw
                  have hlen := hw _ (.inl rfl)
                  refine ⟨Nat.le_trans (Nat.mul_le_mul_right _ (by simp at h1; omega)) hlen, fun x hx => ?_⟩
                  obtain ⟨i, hi, rfl⟩ := List.mem_iff_getElem.1 hx
                  obtain ⟨y, hy, hsz⟩ := (hx2 i hi).2
                  exact hsz fun k hk => hw k (.inr (.inl (weightsAll_mem (List.mem_map.2 ⟨y, List.mem_of_getElem? hy, rfl⟩) k hk)))
              · simp at h
          · simp at hl
        · simp at hl
      · -- struct
        rename_i fs hu
        rw [hu] at h
        split at hl
        · rename_i a ha
          split at hl
          · rename_i hc
            simp at hl; subst hl
            simp only at h
            split at h
            · rename_i hlen
              cases hm : fs.toList.mapM (fun f => DataW.trod enc P W base spare held fuel f.type ((cs.drop f.offset).take (P.cellsOf f.type))) with
              | none => rw [hm] at h; simp at h
              | some ys =>
                rw [hm] at h
                simp only [Option.map_some, Option.some.injEq, Prod.mk.injEq] at h
                have key : ∀ (l : List Field) (off : Nat) (b : Ty) (ys : List (DataW H × List MemPlace)), lawFold P (lawRow P n) off l = some b → off + b.cells = cs.length → l.mapM (fun f => DataW.trod enc P W base spare held fuel f.type ((cs.drop f.offset).take (P.cellsOf f.type))) = some ys →
                    ∃ x : b.den, rep W (fun b => b < W.heap.size) b x (cs.drop off) ∧ ((∀ k ∈ DataW.weightsEach P (l.map (·.type)) (ys.map (·.1)), k ≤ reachBytes) → Sz (btFold (lawBT P n) l) b x) := by
                  intro l
                  induction l with
                  | nil => intro off b ys hb; simp [lawFold] at hb
                  | cons f r ihr =>
                    intro off b ys hb hl hall
                    simp only [List.mapM_cons, Option.pure_def, Option.bind_eq_bind] at hall
                    cases hy : DataW.trod enc P W base spare held fuel f.type ((cs.drop f.offset).take (P.cellsOf f.type)) with
                    | none => rw [hy] at hall; simp at hall
                    | some y =>
                    rw [hy] at hall
                    simp only [Option.bind_some] at hall
                    cases hr2 : r.mapM (fun f => DataW.trod enc P W base spare held fuel f.type ((cs.drop f.offset).take (P.cellsOf f.type))) with
                    | none => rw [hr2] at hall; simp at hall
                    | some yr =>
                    rw [hr2] at hall
                    simp only [Option.bind_some, Option.some.injEq] at hall
                    subst hall
                    simp only [lawFold] at hb
                    split at hb
                    · rename_i hoff
                      split at hb
                      · rename_i a' ha'
                        split at hb
                        · rename_i hca
                          obtain ⟨x, hx, hsz⟩ := ih n f.type a' _ y.1 y.2 ha' hy
                          rw [hoff, ← hca] at hx
                          have hsz' : (∀ k ∈ DataW.weightsEach P ((f :: r).map (·.type)) ((y :: yr).map (·.1)), k ≤ reachBytes) → Sz (lawBT P n f.type) a' x := fun hw => hsz fun k hk => hw k (by simp only [List.map_cons, DataW.weightsEach, List.mem_append]; exact .inl hk)
                          split at hb
                          · simp at hb; subst hb
                            rw [List.take_of_length_le (by simp; omega)] at hx
                            exact ⟨x, hx, fun hw => hsz' hw⟩
                          · rename_i hne
                            cases hr : lawFold P (lawRow P n) (off + a'.cells) r with
                            | none => rw [hr] at hb; simp at hb
                            | some b' =>
                              rw [hr] at hb; simp at hb; subst hb
                              simp only [Ty.cells] at hl
                              obtain ⟨x', hx', hsz2⟩ := ihr (off + a'.cells) b' yr hr (by omega) hr2
                              refine ⟨(x, x'), ?_, fun hw => ?_⟩
                              · simp only [rep]
                                exact ⟨_, _, by rw [← List.drop_drop, List.take_append_drop], hx, hx'⟩
                              · cases r with
                                | nil => exact absurd rfl hne
                                | cons f2 r2 => exact ⟨hsz' hw, hsz2 fun k hk => hw k (by simp only [List.map_cons, DataW.weightsEach, List.mem_append]; exact .inr hk)⟩
                        · simp at hb
                      · simp at hb
                    · simp at hb
                obtain ⟨x, hx, hsz⟩ := key fs.toList 0 a ys ha (by omega) hm
                refine ⟨x, by simpa using hx, fun hw => ?_⟩
                rw [hu]
                exact hsz fun k hk => hw k (by rw [← h.1]; simp only [DataW.weights, hu]; exact hk)
            · simp at h
          · simp at hl
        · simp at hl
      · -- array
        rename_i m e hu
        rw [hu] at h
        split at hl
        · rename_i a ha
          split at hl
          · rename_i hc
            split at hl
            · rename_i b hb
              split at hl
              · rename_i hcb
                simp at hl; subst hl
                simp only at h
                split at h
                · rename_i hlen
                  cases hm : (List.range m).mapM (fun i => DataW.trod enc P W base spare held fuel e ((cs.drop (i * P.cellsOf e)).take (P.cellsOf e))) with
                  | none => rw [hm] at h; simp at h
                  | some ys =>
                    rw [hm] at h
                    simp only [Option.map_some, Option.some.injEq, Prod.mk.injEq] at h
                    obtain ⟨h1, h2⟩ := mapM_some hm
                    have key : ∀ (k i : Nat) (b : Ty), lawArr a k = some b → i + k = m → i * a.cells + b.cells = cs.length → ∃ x : b.den, rep W (fun b => b < W.heap.size) b x (cs.drop (i * a.cells)) ∧ ((∀ k ∈ DataW.weightsAll P e (ys.map (·.1)), k ≤ reachBytes) → Sz (btArr (lawBT P n e) k) b x) := by
                      intro k
                      induction k with
                      | zero => intro i b hb; simp [lawArr] at hb
                      | succ k ihk =>
                        intro i b hb hik hl
                        obtain ⟨y, hy1, hy⟩ := h2 i i (by rw [List.getElem?_range (by omega)])
                        obtain ⟨x, hx, hsz⟩ := ih n e a _ y.1 y.2 ha hy
                        rw [← hc] at hx
                        have hsz' : (∀ k ∈ DataW.weightsAll P e (ys.map (·.1)), k ≤ reachBytes) → Sz (lawBT P n e) a x := fun hw => hsz fun k hk => hw k (weightsAll_mem (List.mem_map.2 ⟨y, List.mem_of_getElem? hy1, rfl⟩) k hk)
                        cases k with
                        | zero =>
                          simp [lawArr] at hb; subst hb
                          rw [List.take_of_length_le (by simp; omega)] at hx
                          exact ⟨x, hx, hsz'⟩
                        | succ k =>
                          simp only [lawArr] at hb
                          cases hr : lawArr a (k + 1) with
                          | none => rw [hr] at hb; simp at hb
                          | some b' =>
                            rw [hr] at hb; simp at hb; subst hb
                            simp only [Ty.cells] at hl
                            obtain ⟨x', hx', hsz2⟩ := ihk (i + 1) b' hr (by omega) (by rw [Nat.add_mul, Nat.one_mul]; omega)
                            refine ⟨(x, x'), ?_, fun hw => ⟨hsz' hw, hsz2 hw⟩⟩
                            simp only [rep]
                            refine ⟨_, _, ?_, hx, hx'⟩
                            rw [Nat.add_mul, Nat.one_mul, ← List.drop_drop, List.take_append_drop]
                    obtain ⟨x, hx, hsz⟩ := key m 0 b hb (by omega) (by omega)
                    refine ⟨x, by simpa using hx, fun hw => ?_⟩
                    rw [hu]
                    exact hsz fun k hk => hw k (by rw [← h.1]; simp only [DataW.weights, hu]; exact hk)
                · simp at h
              · simp at hl
            · simp at hl
          · simp at hl
        · simp at hl
      · simp at hl
end
section
variable {H : Type} {enc : TypeId × Value → H} {P : Program} {W W' : World}
theorem law_arg_sz {base : Nat} {t : TypeId} {ty : Ty} {v : Value} {d : DataW H} {ps : List MemPlace} (ht : lawTy P t = some ty) (hok : Value.okWide P W .any base t v) (h : DataW.Trod enc P W 0 (fun _ => true) true t v d ps) :
    ∃ x : ty.den, RV (Cx.at P W (fun b => b < W.heap.size)) W (Gh.at (fun b => b < W.heap.size)) (vOfDen ty x) v ∧ ((∀ k ∈ d.weights P t, k ≤ reachBytes) → Sz (lawBT P 8 t) ty x) := by
  obtain ⟨h1, h2⟩ := lawTy_some ht
  obtain ⟨fuel, hf⟩ := h
  obtain ⟨x, hx, hsz⟩ := rep_of_trod_sz fuel 8 t ty _ d ps h1 hf
  refine ⟨x, RV_vOfDen ty x v hx ?_, hsz⟩
  rcases h2 with ⟨hp, hu⟩ | ⟨hp, hu1, hu2⟩
  · cases ty <;> simp [isPair] at hp
    simp only [shape]
    unfold Value.okWide at hok
    rcases hu with ⟨fs, hu⟩ | ⟨m, e, hu⟩ <;> rw [hu] at hok <;> obtain ⟨cs, rfl, _⟩ := hok <;> exact ⟨cs, rfl⟩
  · have one : v.oneCell' = true := by
      unfold Value.okWide at hok
      split at hok
      · rename_i fs hu; exact absurd hu (hu1 fs)
      · rename_i m e hu; exact absurd hu (hu2 m e)
      · cases v with
        | agg cs =>
          exfalso
          revert hok hf
          unfold lawRow at h1
          split at h1
          all_goals (try (cases h1; done))
          all_goals (rename_i hu; intro hf hok)
          all_goals first
            | (simp [Cell.okWide, Cell.ok, hu] at hok; done)
            | skip
          all_goals (first | exact absurd hu (hu1 _) | exact absurd hu (hu2 _ _))
        | tuple cs =>
          exfalso
          revert hok hf
          unfold lawRow at h1
          split at h1
          all_goals (try (cases h1; done))
          all_goals (rename_i hu; intro hf hok)
          all_goals first
            | (simp [Cell.okWide, Cell.ok, hu] at hok; done)
            | skip
          all_goals (first | exact absurd hu (hu1 _) | exact absurd hu (hu2 _ _))
        | _ => rfl
    cases ty <;> simp [isPair] at hp <;> exact one

theorem law_args_sz {base : Nat} : ∀ (ts : List TypeId) (tys : List Ty) (vs : List Value) (ds : List (DataW H)) (ps : List MemPlace), lawTys P ts = some tys → (∀ (j : Nat) t v, ts[j]? = some t → vs[j]? = some v → Value.okWide P W .any base t v) →
    DataW.TrodAll enc P W 0 (fun _ => true) true ts vs ds ps → ∃ xs, RVs (Cx.at P W (fun b => b < W.heap.size)) W (Gh.at (fun b => b < W.heap.size)) (argsV (tys.map .d) xs) vs ∧ ((∀ k ∈ DataW.weightsEach P ts ds, k ≤ reachBytes) → SzA (ts.map (lawBT P 8)) tys xs)
  | [], tys, vs, ds, ps, ht, _, h => by
    simp [lawTys] at ht; subst ht
    cases vs with
    | nil => exact ⟨(), rfl, fun _ => trivial⟩
    | cons v vs => exact h.elim
  | t :: ts, tys, [], ds, ps, ht, _, h => h.elim
  | t :: ts, tys, v :: vs, [], ps, ht, _, h => h.elim
  | t :: ts, tys, v :: vs, d :: ds, ps, ht, hok, h => by
    simp only [lawTys] at ht
    split at ht
    · rename_i a l ha hl
      simp at ht; subst ht
      simp only [DataW.TrodAll] at h
      obtain ⟨p, q, h1, h2, rfl⟩ := h
      obtain ⟨x, hx, hz⟩ := law_arg_sz ha (hok 0 t v rfl rfl) h1
      obtain ⟨xs, hxs, hzs⟩ := law_args_sz ts l vs ds q hl (fun j t v h3 h4 => hok (j + 1) t v (by simpa using h3) (by simpa using h4)) h2
      exact ⟨(x, xs), ⟨v, vs, rfl, hx, hxs⟩, fun hw => ⟨hz fun k hk => hw k (by simp only [DataW.weightsEach, List.mem_append]; exact .inl hk), hzs fun k hk => hw k (by simp only [DataW.weightsEach, List.mem_append]; exact .inr hk)⟩⟩
    · simp at ht

def lawSpecZ (bts : List BT) (tys : List Ty) : PSpec := ⟨tys.map .d, [⟨false, [.d .bool]⟩], fun x => SzA bts tys x, fun _ => ((true, ()), ())⟩
theorem law_row_sz {C : Checked} {os : Os} {f : FuncId} {fn : Func} {s : ChangeSpec} {conds : List PathCond} {tys : List Ty} {bts : List BT} {tb : TypeId}
    (own : ownKnob C.prog.godebug = none) (started : os.Started) (noInit : C.prog.inits.idxOf? f = none) (hfn : C.prog.funcs[f]? = some fn) (laid : laidOutB C.prog = true)
    (witness : ∃ (w : World) (tape : Tape) (i : Input), w.os = os ∧ (w.forCall tape i).Shaped C.prog ∧ i.vars = [] ∧ Input.okWide C.prog (w.forCall tape i) .any w.heap.size f i ∧
      s.pre6 enc C.prog fn conds false (w.forCall tape i).memory i.args ∧ ({} : Assume).holds C.prog (lone (Frame.enter C.prog f i.args .normal) [] (w.forCall tape i)))
    (ht : lawTys C.prog fn.params.toList = some tys) (hr : (fn.params.toList.all fun t => C.prog.readableRec t && decide (t < C.prog.types.size)) = true)
    (hres : fn.resultTypes = #[tb]) (htb : C.prog.underlying tb = some .bool) (hvars : s.vars = []) (hs : ∀ ds : List (DataW H), ds.length = fn.params.toList.length → s.fn H ds = { results := [.lit (.bool true)], args := ds })
    (hbt : fn.params.toList.map (lawBT C.prog 8) = bts) (hp : PSound C.prog f (lawSpecZ bts tys)) :
    ReturnsInHanded {} C os f .any (s.pre6 enc C.prog fn conds false) (s.post enc C.prog fn false true false false) := by
  refine returnsInHanded_of_change_sized (C := C) own started noInit hfn witness ?_
  intro W base args ds gs before hval hW hcnd hwt _
  have hW' := hW
  obtain ⟨p, q, hA, hV, rfl, hfz, hnd⟩ := hW
  rw [hvars] at hV
  obtain ⟨rfl, rfl⟩ : gs = [] ∧ q = [] := by
    cases gs with
    | nil => exact ⟨rfl, by simpa [DataW.TrodVars] using hV⟩
    | cons g gs => simp [DataW.TrodVars] at hV
  obtain ⟨xs, hxs, hzs⟩ := law_args_sz (base := base) _ tys _ _ _ ht (fun j t v h1 h2 => hval j t v (by simpa using h1) (by simpa using h2)) hA
  have hargs : args = args.toList.toArray := by simp
  rw [hargs]
  have hsz := hzs fun k hk => by
    rw [List.all_eq_true] at hwt
    simpa using hwt k (by rw [List.append_nil, show s.plain.varTypes C.prog = [] by unfold DataSpec.varTypes ChangeSpec.plain; rw [hvars]; rfl, List.append_nil]; exact hk)
  rw [hbt] at hsz
  refine (hp W _ xs args.toList (fun b hb => hb) hxs hsz).mono fun e W' ⟨x, g', he, Q⟩ => ⟨x, he, ?_⟩
  rw [← hargs]
  have hx : x = .bool true := by
    have := Q.val
    simpa [lawSpecZ, resV, rsV, oneV, psV, ofDen, RV] using this
  subst hx
  have hlen := trodAll_len _ _ _ _ hA
  have hfn' := hs ds hlen
  refine ⟨ds, [], _, [], p, [], hW', ?_, ?_, ?_, Q.below.frame _, fun h => by cases h⟩
  · rw [List.append_nil, hfn', hres]
    exact trodAll_mk1 (shut_bool htb _)
  · rw [List.append_nil, hfn']
    exact trod_args laid Q.below _ _ _ _ hr (fun y hy => hW'.lt y (by simp [hy])) hA
  · rw [hvars, List.append_nil, hfn']
    simp [DataW.TrodVars]
end
end Go.Eng
