import Derived.Test.YtlfehkoklgmjjaaEngF
/- Each operation does what the abstract step says: arithmetic, comparisons, conversions. -/
set_option linter.unusedVariables false
set_option linter.unusedSimpArgs false
namespace Go.Eng
open Go.RowKit (Below)

section
variable {C : Cx} {w w' : World} {g g' : Gh} {h : Heap} {P : Program} {T : Tab}

theorem wrap_bounds (k : IntKind) (n : Int) : k.min ≤ k.wrap n ∧ k.wrap n ≤ k.max := by
  cases k <;> simp only [IntKind.wrap, IntKind.min, IntKind.max, IntKind.signed, IntKind.bits, Bool.true_and, Bool.false_and, ite_true, ite_false, Bool.false_eq_true] <;> (try split) <;> (try simp only [decide_eq_true_eq, ge_iff_le] at *) <;> (simp only [Int.reducePow, Nat.reduceSub] at *) <;> omega

theorem RV_wrap (k : IntKind) (n : Int) : RV C w g (.i k (k.wrap n)) (.int k (k.wrap n)) := by
  simp only [RV, true_and]; exact wrap_bounds k n

theorem run_intBits (op : BinOp) (k : IntKind) (a b : Int) (ho : op = .and ∨ op = .or ∨ op = .xor ∨ op = .andNot) : (Op.intBits op k a b).run P w = .ok (.int k (ibits op k a b)) w := by
  rcases ho with rfl | rfl | rfl | rfl <;> simp [Op.intBits, ibits]

theorem binInt_sound {op : BinOp} {k : IntKind} {a b : Int} {c : List Prop} {v : V} (hs : binInt op k a b = some (c, v)) (hc : ∀ p ∈ c, p) {t : TypeId} (hop : op ≠ .shl ∧ op ≠ .shr) :
    ∃ val, (binOp op t (.int k a) (.int k b)).run P w = .ok val w ∧ RV C w g v val := by
  cases op <;> simp only [binInt, Option.some.injEq, Prod.mk.injEq] at hs
  all_goals try (simp at hs; done)
  case add => obtain ⟨rfl, rfl⟩ := hs; exact ⟨.int k (k.wrap (a + b)), by simp [binOp, Op.intArith], RV_wrap _ _⟩
  case sub => obtain ⟨rfl, rfl⟩ := hs; exact ⟨.int k (k.wrap (a - b)), by simp [binOp, Op.intArith], RV_wrap _ _⟩
  case mul => obtain ⟨rfl, rfl⟩ := hs; exact ⟨.int k (k.wrap (a * b)), by simp [binOp, Op.intArith], RV_wrap _ _⟩
  case quo =>
    obtain ⟨rfl, rfl⟩ := hs
    have hb : b ≠ 0 := hc _ (by simp)
    exact ⟨.int k (k.wrap (a.tdiv b)), by simp [binOp, Op.intDiv, hb], RV_wrap _ _⟩
  case rem =>
    obtain ⟨rfl, rfl⟩ := hs
    have hb : b ≠ 0 := hc _ (by simp)
    have hk : inK k (a.tmod b) = true := hc _ (by simp)
    exact ⟨.int k (a.tmod b), by simp [binOp, Op.intDiv, hb], by simp only [RV, true_and]; exact (inK_iff _ _).1 hk⟩
  case and => obtain ⟨rfl, rfl⟩ := hs; exact ⟨.int k (ibits .and k a b), by have := run_intBits (P := P) (w := w) .and k a b (by simp); simpa only [binOp, ne_eq, not_true_eq_false, if_false] using this, RV_wrap _ _⟩
  case or => obtain ⟨rfl, rfl⟩ := hs; exact ⟨.int k (ibits .or k a b), by have := run_intBits (P := P) (w := w) .or k a b (by simp); simpa only [binOp, ne_eq, not_true_eq_false, if_false] using this, RV_wrap _ _⟩
  case xor => obtain ⟨rfl, rfl⟩ := hs; exact ⟨.int k (ibits .xor k a b), by have := run_intBits (P := P) (w := w) .xor k a b (by simp); simpa only [binOp, ne_eq, not_true_eq_false, if_false] using this, RV_wrap _ _⟩
  case andNot => obtain ⟨rfl, rfl⟩ := hs; exact ⟨.int k (ibits .andNot k a b), by have := run_intBits (P := P) (w := w) .andNot k a b (by simp); simpa only [binOp, ne_eq, not_true_eq_false, if_false] using this, RV_wrap _ _⟩
  case eql => obtain ⟨rfl, rfl⟩ := hs; exact ⟨.bool (a == b), by simp [binOp, Op.intCmp], by simp [RV]⟩
  case neq => obtain ⟨rfl, rfl⟩ := hs; exact ⟨.bool (a != b), by simp [binOp, Op.intCmp], by simp [RV]⟩
  case lss => obtain ⟨rfl, rfl⟩ := hs; exact ⟨.bool (decide (a < b)), by simp [binOp, Op.intCmp], by simp [RV]⟩
  case leq => obtain ⟨rfl, rfl⟩ := hs; exact ⟨.bool (decide (a ≤ b)), by simp [binOp, Op.intCmp], by simp [RV]⟩
  case gtr => obtain ⟨rfl, rfl⟩ := hs; exact ⟨.bool (decide (a > b)), by simp [binOp, Op.intCmp], by simp [RV]⟩
  case geq => obtain ⟨rfl, rfl⟩ := hs; exact ⟨.bool (decide (a ≥ b)), by simp [binOp, Op.intCmp], by simp [RV]⟩

theorem str_list (l : List UInt8) : (⟨⟨l⟩⟩ : ByteArray).toList = l := by rw [ByteArray.toList_eq]
theorem binStr_sound {op : BinOp} {a b : List UInt8} {c : List Prop} {v : V} (hs : binStr op a b = some (c, v)) (hc : ∀ p ∈ c, p) {t : TypeId} :
    ∃ val, (binOp op t (.string ⟨⟨a⟩⟩) (.string ⟨⟨b⟩⟩)).run P w = .ok val w ∧ RV C w g v val := by
  cases op <;> simp only [binStr, Option.some.injEq, Prod.mk.injEq] at hs
  all_goals try (simp at hs; done)
  case add =>
    obtain ⟨rfl, rfl⟩ := hs
    have hl : a.length + b.length ≤ maxLen := hc _ (by simp)
    refine ⟨.string ⟨⟨a ++ b⟩⟩, ?_, by simp [RV, hl]⟩
    have hr := run_string_add_sum (P := P) w ⟨⟨a⟩⟩ ⟨⟨b⟩⟩ (by show a.length + b.length ≤ _; simp only [maxLen] at hl; omega)
    have e : (⟨⟨a⟩⟩ : ByteArray) ++ ⟨⟨b⟩⟩ = ⟨⟨a ++ b⟩⟩ := by
      rw [ByteArray.mk_append_mk]
    simp [binOp, hr, e]
  case eql => obtain ⟨rfl, rfl⟩ := hs; exact ⟨.bool (a == b), by simp [binOp, Op.stringOp], by simp [RV]⟩
  case neq => obtain ⟨rfl, rfl⟩ := hs; exact ⟨.bool (!(a == b)), by simp [binOp, Op.stringOp], by simp [RV]⟩
  case lss => obtain ⟨rfl, rfl⟩ := hs; exact ⟨.bool (sless a b), by simp [binOp, Op.stringOp], by simp [RV]⟩
  case leq => obtain ⟨rfl, rfl⟩ := hs; exact ⟨.bool (sless a b || a == b), by simp [binOp, Op.stringOp], by simp [RV]⟩
  case gtr => obtain ⟨rfl, rfl⟩ := hs; exact ⟨.bool (!(sless a b || a == b)), by simp [binOp, Op.stringOp], by simp [RV]⟩
  case geq => obtain ⟨rfl, rfl⟩ := hs; exact ⟨.bool (!(sless a b)), by simp [binOp, Op.stringOp], by simp [RV]⟩

theorem vbool_rel {v : V} {p : Bool} {x : Value} (h : vbool v = some p) (hv : RV C w g v x) : x = .bool p := by
  cases v <;> simp [vbool] at h <;> (subst h; simpa [RV] using hv)

theorem shiftV_sound {op : BinOp} {k k' : IntKind} {a b : Int} {c : List Prop} {v : V} (hs : shiftV op k a b = some (c, v)) (hc : ∀ p ∈ c, p) {t : TypeId} :
    ∃ val, (binOp op t (.int k a) (.int k' b)).run P w = .ok val w ∧ RV C w g v val := by
  cases op <;> simp only [shiftV, Option.some.injEq, Prod.mk.injEq] at hs
  all_goals try (simp at hs; done)
  case shl =>
    obtain ⟨rfl, rfl⟩ := hs
    have hb : 0 ≤ b := hc _ (by simp)
    have hb' : ¬ b < 0 := by omega
    exact ⟨.int k (k.wrap (a * 2 ^ (min b.toNat k.bits))), by simp [binOp, Op.shift, hb'], RV_wrap _ _⟩
  case shr =>
    obtain ⟨rfl, rfl⟩ := hs
    have hb : 0 ≤ b := hc _ (by simp)
    have hk : inK k (a.fdiv (2 ^ (min b.toNat k.bits))) = true := hc _ (by simp)
    have hb' : ¬ b < 0 := by omega
    exact ⟨.int k (a.fdiv (2 ^ (min b.toNat k.bits))), by simp [binOp, Op.shift, hb'], by simp only [RV, true_and]; exact (inK_iff _ _).1 hk⟩

theorem binOp_bools {t : TypeId} (ht : P.underlying t = some .bool) (p q : Bool) : (binOp .eql t (.bool p) (.bool q)).run P w = .ok (.bool (p == q)) w ∧ (binOp .neq t (.bool p) (.bool q)).run P w = .ok (.bool (!(p == q))) w := by
  have h : (Op.equalIn 10000 t (.bool p) (.bool q)).run P w = .ok (p == q) w := run_equalIn_bool' w 9999 t p q ht
  constructor
  · simp only [binOp]; simp [Op.equal, Op.maxDepth, h]
  · simp only [binOp]; simp [Op.equal, Op.maxDepth, h]

/-- Two cells of one kind of plain data, compared by the model. -/
theorem fieldEq_sound (hT : TabOk P T) {d : Nat} {ft : TypeId} {i : TI} (hi : T.ti ft = some i) {a b : V} {x y : Value} {p : Bool}
    (hs : fieldEq i.d a b = some p) (ha : RV C w g a x) (hb : RV C w g b y) : (Op.equalIn (d + 1) ft x y).run P w = .ok p w ∧ isAggD i.d = false := by
  obtain ⟨inf, u, z, g1, g2, g3, g4, g5⟩ := ti_of hT hi
  unfold fieldEq at hs
  split at hs
  · rename_i kk k m k' n hd
    simp only [RV] at ha hb
    obtain ⟨rfl, _⟩ := ha
    obtain ⟨rfl, _⟩ := hb
    split at hs
    · rename_i hkk
      subst hkk
      simp only [Option.some.injEq] at hs
      subst hs
      rw [hd] at g4
      obtain rfl := und_int g4
      exact ⟨run_equalIn_int w d ft k kk m n g2, by rw [hd]; rfl⟩
    · simp at hs
  · rename_i l m hd
    simp only [RV] at ha hb
    obtain ⟨rfl, _⟩ := ha
    obtain ⟨rfl, _⟩ := hb
    simp only [Option.some.injEq] at hs
    subst hs
    rw [hd] at g4
    obtain rfl := und_str g4
    have := run_equalIn_string (P := P) w d ft ⟨⟨l⟩⟩ ⟨⟨m⟩⟩ g2
    rw [str_list, str_list] at this
    exact ⟨this, by rw [hd]; rfl⟩
  · rename_i hd
    split at hs
    · rename_i q r h1 h2
      simp only [Option.some.injEq] at hs
      have e1 := vbool_rel h1 ha
      have e2 := vbool_rel h2 hb
      subst e1; subst e2; subst hs
      rw [hd] at g4
      obtain rfl := und_bool g4
      exact ⟨run_equalIn_bool' w d ft q r g2, by rw [hd]; rfl⟩
    · simp at hs
  · simp at hs

theorem flatEq_sound (hT : TabOk P T) {d : Nat} {vs us : List Value} : ∀ (gs : List Field) (n : Nat) (cs ds : List V) (p : Bool), flatEq T n (gs.map fun f => (f.type, f.offset)) cs ds = some p →
    RVs C w g cs (vs.drop n) → RVs C w g ds (us.drop n) → (∀ f ∈ gs, f.name ≠ "_") → (Op.eqFields (d + 1) vs.toArray us.toArray gs).run P w = .ok p w := by
  have one : ∀ (f : Field) (n : Nat) (c e : V) (cs ds : List V) (i : TI) (q : Bool), T.ti f.type = some i → Nat.beq f.offset n = true → fieldEq i.d c e = some q →
      RVs C w g (c :: cs) (vs.drop n) → RVs C w g (e :: ds) (us.drop n) →
      ∃ x y, (part f.type vs.toArray f.offset).run P w = .ok x w ∧ (part f.type us.toArray f.offset).run P w = .ok y w ∧ (Op.equalIn (d + 1) f.type x y).run P w = .ok q w ∧ RVs C w g cs (vs.drop (n + 1)) ∧ RVs C w g ds (us.drop (n + 1)) := by
    intro f n c e cs ds i q hi hb hq hc hd
    obtain rfl := Nat.eq_of_beq_eq_true hb
    simp only [RVs] at hc hd
    obtain ⟨x, xs, hx, hcx, hcs⟩ := hc
    obtain ⟨y, ys, hy, hdy, hds⟩ := hd
    obtain ⟨inf, u, z, g1, g2, g3, g4, g5⟩ := ti_of hT hi
    obtain ⟨hr, hagg⟩ := fieldEq_sound hT (d := d) hi hq hcx hdy
    have gx : vs[f.offset]? = some x := by
      have : (vs.drop f.offset)[0]? = some x := by rw [hx]; rfl
      simpa using this
    have gy : us[f.offset]? = some y := by
      have : (us.drop f.offset)[0]? = some y := by rw [hy]; rfl
      simpa using this
    refine ⟨x, y, by simp [part, run_isAgg g2, g4, hagg, gx], by simp [part, run_isAgg g2, g4, hagg, gy], hr, ?_, ?_⟩
    · rw [← List.drop_drop, hx]; simpa using hcs
    · rw [← List.drop_drop, hy]; simpa using hds
  intro gs
  induction gs with
  | nil =>
    intro n cs ds p hs _ _ _
    cases cs <;> cases ds <;> simp [flatEq] at hs
    subst hs
    simp [Op.eqFields]
  | cons f gs ih =>
    intro n cs ds p hs hc hd hnm
    have hf : f.name ≠ "_" := hnm f (by simp)
    cases cs with
    | nil => cases gs <;> simp [flatEq] at hs
    | cons c cs =>
      cases ds with
      | nil => cases gs <;> cases cs <;> simp [flatEq] at hs
      | cons e ds =>
        have step : ∀ (i : TI) (q r : Bool), T.ti f.type = some i → Nat.beq f.offset n = true → fieldEq i.d c e = some q →
            (∀ (hc' : RVs C w g cs (vs.drop (n + 1))) (hd' : RVs C w g ds (us.drop (n + 1))), (Op.eqFields (d + 1) vs.toArray us.toArray gs).run P w = .ok r w) → p = (q && r) →
            (Op.eqFields (d + 1) vs.toArray us.toArray (f :: gs)).run P w = .ok p w := by
          intro i q r hi hb hq hrest hp
          obtain ⟨x, y, h1, h2, h3, h4, h5⟩ := one f n c e cs ds i q hi hb hq hc hd
          have h6 := hrest h4 h5
          subst hp
          simp only [Op.eqFields]
          cases q <;> simp [hf, h1, h2, h3, h6]
        have gen : ∀ (i : TI), T.ti f.type = some i → (match Nat.beq f.offset n, fieldEq i.d c e, flatEq T (n + 1) (gs.map fun f => (f.type, f.offset)) cs ds with
            | true, some p, some q => some (p && q)
            | _, _, _ => none) = some p → (Op.eqFields (d + 1) vs.toArray us.toArray (f :: gs)).run P w = .ok p w := by
          intro i hi hs
          cases hb : Nat.beq f.offset n
          · simp [hb] at hs
          cases hq : fieldEq i.d c e with
          | none => simp [hq] at hs
          | some q =>
            cases hr : flatEq T (n + 1) (gs.map fun f => (f.type, f.offset)) cs ds with
            | none => simp [hr] at hs
            | some r =>
              simp only [hb, hq, hr, Option.some.injEq] at hs
              exact step i q r hi hb hq (fun hc' hd' => ih (n + 1) cs ds r hr hc' hd' (fun f hf => hnm f (by simp [hf]))) hs.symm
        cases hti : T.ti f.type with
        | none => cases gs <;> cases cs <;> cases ds <;> simp [flatEq, hti] at hs
        | some i =>
          by_cases hl : gs = [] ∧ cs = [] ∧ ds = []
          · obtain ⟨rfl, rfl, rfl⟩ := hl
            simp only [List.map_cons, List.map_nil, flatEq, hti] at hs
            cases hb : Nat.beq f.offset n
            · simp [hb] at hs
            · simp only [hb] at hs
              exact step i p true hti hb hs (fun _ _ => by simp [Op.eqFields]) (by simp)
          · refine gen i hti ?_
            cases gs <;> cases cs <;> cases ds <;> first
              | exact absurd ⟨rfl, rfl, rfl⟩ hl
              | (simp only [List.map_cons, List.map_nil, flatEq, hti] at hs ⊢; exact hs)

theorem equalIn_ptr_nil (d : Nat) (t e : TypeId) (a : Addr) (h : P.underlying t = some (.pointer e)) : (Op.equalIn (d + 1) t (.pointer (some a)) (.pointer none)).run P w = .ok false w := by
  simp [Op.equalIn, run_underlying h]
theorem equalIn_slice_nil (d : Nat) (t e : TypeId) (A : Option Addr) (m c : Nat) (h : P.underlying t = some (.slice e)) : (Op.equalIn (d + 1) t (.slice A m c) (.slice none 0 0)).run P w = .ok A.isNone w := by
  cases A <;> simp [Op.equalIn, run_underlying h]
theorem binV_sound (hT : TabOk P T) {op : BinOp} {t : TypeId} {a b v : V} {x y : Value} {c : List Prop} (hs : binV T op t a b = some (c, v)) (hc : ∀ p ∈ c, p) (ha : RV C w g a x) (hb : RV C w g b y) (o1 o2 : Operand) :
    ∃ val, (do eqGuard op t o1 o2 x y; binOp op t x y : Sem Value).run P w = .ok val w ∧ RV C w g v val := by
  have guard : ∀ {x y : Value}, ((∀ cs, x ≠ .agg cs) ∧ x ≠ .nilIface) → (eqGuard op t o1 o2 x y).run P w = .ok () w := by
    intro x y hx
    unfold eqGuard
    cases op <;> simp
    all_goals
      cases x <;> first
        | exact absurd rfl hx.2
        | exact absurd rfl (hx.1 _)
        | simp
  unfold binV at hs
  split at hs
  · rename_i k m k' n
    simp only [RV] at ha hb
    obtain ⟨rfl, _⟩ := ha
    obtain ⟨rfl, _⟩ := hb
    have hg := guard (x := .int k m) (y := .int k' n) ⟨by simp, by simp⟩
    split at hs
    · obtain ⟨val, h1, h2⟩ := shiftV_sound (P := P) (C := C) (w := w) (g := g) (k' := k') (t := t) hs hc
      exact ⟨val, by simp [hg, h1], h2⟩
    · obtain ⟨val, h1, h2⟩ := shiftV_sound (P := P) (C := C) (w := w) (g := g) (k' := k') (t := t) hs hc
      exact ⟨val, by simp [hg, h1], h2⟩
    · rename_i n1 n2
      split at hs
      · rename_i hk
        subst hk
        obtain ⟨val, h1, h2⟩ := binInt_sound (P := P) (C := C) (w := w) (g := g) (t := t) hs hc ⟨n1, n2⟩
        exact ⟨val, by simp [hg, h1], h2⟩
      · simp at hs
  · rename_i l m
    simp only [RV] at ha hb
    obtain ⟨rfl, _⟩ := ha
    obtain ⟨rfl, _⟩ := hb
    have hg := guard (x := .string ⟨⟨l⟩⟩) (y := .string ⟨⟨m⟩⟩) ⟨by simp, by simp⟩
    obtain ⟨val, h1, h2⟩ := binStr_sound (P := P) (C := C) (w := w) (g := g) (t := t) hs hc
    exact ⟨val, by simp [hg, h1], h2⟩
  · rename_i cs ds
    simp only [RV] at ha hb
    obtain ⟨vs, rfl, hvs⟩ := ha
    obtain ⟨us, rfl, hus⟩ := hb
    split at hs
    · rename_i fs _ _ _ _ hti
      obtain ⟨inf, u, z, g1, g2, g3, g4, g5, g6, g7, g8, g9⟩ := ti_of hT hti
      obtain ⟨gs, rfl, hgs⟩ := und_struct g4
      simp only [eqOf, Bool.and_eq_true, Bool.not_eq_true'] at g9
      obtain ⟨⟨q1, q2⟩, q3⟩ := g9
      have hfo : P.fieldsOf t = gs := by simp [Program.fieldsOf, g2]
      have hnm : ∀ f ∈ gs.toList, f.name ≠ "_" := fun f hf => by
        have := List.all_eq_true.1 q3 f hf
        simpa using this
      have run : ∀ p, flatEq T 0 fs cs ds = some p → (Op.equalIn 10000 t (.agg vs.toArray) (.agg us.toArray)).run P w = .ok p w := fun p hp => by
        rw [run_equalIn_struct w 9999 t _ _ (by rw [hfo]; exact g2) q1, hfo]
        rw [← hgs] at hp
        exact flatEq_sound hT (d := 9998) gs.toList 0 cs ds p hp (by simpa using hvs) (by simpa using hus) hnm
      have hg := run_eqGuard_agg (P := P) w op t o1 o2 vs.toArray us.toArray q2
      split at hs
      · rename_i p hp
        simp only [Option.some.injEq, Prod.mk.injEq] at hs
        obtain ⟨rfl, rfl⟩ := hs
        exact ⟨.bool p, by simp [hg, run_eql_struct, run p hp], by simp [RV]⟩
      · rename_i p hp
        simp only [Option.some.injEq, Prod.mk.injEq] at hs
        obtain ⟨rfl, rfl⟩ := hs
        exact ⟨.bool (!p), by simp [hg, run_neq_struct, run p hp], by simp [RV]⟩
      · simp at hs
    · simp at hs
  · rename_i id col
    simp only [RV] at ha hb
    obtain ⟨_, ad, _, rfl⟩ := ha
    subst hb
    have hg := guard (x := .pointer (some (ad.add col))) (y := .pointer none) ⟨by simp, by simp⟩
    split at hs
    · rename_i e _ _ _ _ _ hti
      obtain ⟨inf, u, z, g1, g2, g3, g4, g5⟩ := ti_of hT hti
      obtain rfl := und_ptr g4
      have h1 : (Op.equal t (.pointer (some (ad.add col))) (.pointer none)).run P w = .ok false w := equalIn_ptr_nil 9999 t e _ g2
      split at hs
      · simp only [Option.some.injEq, Prod.mk.injEq] at hs
        obtain ⟨rfl, rfl⟩ := hs
        exact ⟨.bool false, by simp only [binOp]; simp [hg, h1], by simp [RV]⟩
      · simp only [Option.some.injEq, Prod.mk.injEq] at hs
        obtain ⟨rfl, rfl⟩ := hs
        exact ⟨.bool true, by simp only [binOp]; simp [hg, h1], by simp [RV]⟩
      · simp at hs
    · simp at hs
  · split at hs
    · rename_i hti
      obtain ⟨inf, u, z, g1, g2, g3, g4, g5⟩ := ti_of hT hti
      obtain rfl := und_bool g4
      split at hs
      · rename_i p q h1 h2
        simp only [Option.some.injEq, Prod.mk.injEq] at hs
        obtain ⟨rfl, rfl⟩ := hs
        have e1 := vbool_rel h1 ha
        have e2 := vbool_rel h2 hb
        subst e1; subst e2
        have hg := guard (x := .bool p) (y := .bool q) ⟨by simp, by simp⟩
        exact ⟨.bool (p == q), by simp [hg, (binOp_bools (w := w) g2 p q).1], by simp [RV]⟩
      · rename_i p q h1 h2
        simp only [Option.some.injEq, Prod.mk.injEq] at hs
        obtain ⟨rfl, rfl⟩ := hs
        have e1 := vbool_rel h1 ha
        have e2 := vbool_rel h2 hb
        subst e1; subst e2
        have hg := guard (x := .bool p) (y := .bool q) ⟨by simp, by simp⟩
        exact ⟨.bool (!(p == q)), by simp [hg, (binOp_bools (w := w) g2 p q).2], by simp [RV]⟩
      · simp at hs
    · simp at hs

theorem unV_sound {op : UnOp} {a v : V} {x : Value} {c : List Prop} (hs : unV op a = some (c, v)) (ha : RV C w g a x) :
    ∃ val, (Op.unary op x).run P w = .ok val w ∧ RV C w g v val := by
  unfold unV at hs
  split at hs
  · rename_i p
    simp only [Option.some.injEq, Prod.mk.injEq] at hs
    obtain ⟨rfl, rfl⟩ := hs
    simp only [RV] at ha
    subst ha
    cases p
    · exact ⟨.bool true, by simp [Op.unary], by simp [RV]⟩
    · exact ⟨.bool false, by simp [Op.unary], by simp [RV]⟩
  · rename_i p
    simp only [Option.some.injEq, Prod.mk.injEq] at hs
    obtain ⟨rfl, rfl⟩ := hs
    simp only [RV] at ha
    subst ha
    exact ⟨.bool (!p), by simp [Op.unary], by simp [RV]⟩
  · rename_i k n
    simp only [Option.some.injEq, Prod.mk.injEq] at hs
    obtain ⟨rfl, rfl⟩ := hs
    simp only [RV] at ha
    obtain ⟨rfl, _⟩ := ha
    exact ⟨.int k (k.wrap (0 - n)), by simp [Op.unary, Op.intArith], RV_wrap _ _⟩
  · simp at hs

theorem extremeV_sound {mx : Bool} {a b v : V} {x y : Value} {ts : Array TypeId} {ty : TypeId} (hs : extremeV mx a b = some v) (ha : RV C w g a x) (hb : RV C w g b y) :
    ∃ val, (match mx with | true => Builtin.max_ ts ty #[x, y] | false => Builtin.min_ ts ty #[x, y]).run P w = .ok val w ∧ RV C w g v val := by
  unfold extremeV at hs
  split at hs
  · rename_i k m k' n
    simp only [RV] at ha hb
    obtain ⟨rfl, ha⟩ := ha
    obtain ⟨rfl, hb⟩ := hb
    split at hs
    · rename_i hk
      subst hk
      simp only [Option.some.injEq] at hs
      subst hs
      cases mx
      · refine ⟨.int k (if n < m then n else m), by simp [Builtin.min_, Builtin.min2], ?_⟩
        simp only [RV, true_and]; split <;> assumption
      · refine ⟨.int k (if n > m then n else m), by simp [Builtin.max_, Builtin.max2], ?_⟩
        simp only [RV, true_and]; split <;> assumption
    · simp at hs
  · rename_i l m
    simp only [RV] at ha hb
    obtain ⟨rfl, ha⟩ := ha
    obtain ⟨rfl, hb⟩ := hb
    simp only [Option.some.injEq] at hs
    subst hs
    cases mx
    · refine ⟨.string ⟨⟨if sless l m || l == m then l else m⟩⟩, ?_, ?_⟩
      · cases h1 : Op.bytesLess l m <;> by_cases h2 : l = m <;> simp [Builtin.min_, Builtin.min2, Op.stringOp, asBool, h1, h2]
      · simp only [RV, true_and]; split <;> assumption
    · refine ⟨.string ⟨⟨if !(sless l m) then l else m⟩⟩, ?_, ?_⟩
      · cases hq : sless l m <;> simp [Builtin.max_, Builtin.max2, Op.stringOp, asBool, hq]
      · simp only [RV, true_and]; split <;> assumption
  · simp at hs
end
end Go.Eng
