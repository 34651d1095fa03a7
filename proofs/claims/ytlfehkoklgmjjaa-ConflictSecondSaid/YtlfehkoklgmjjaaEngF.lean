import Derived.Test.YtlfehkoklgmjjaaEngE
/- Each operation does what the abstract step says: cuts, fields, arithmetic, conversions. -/
set_option linter.unusedVariables false
set_option linter.unusedSimpArgs false
namespace Go.Eng
open Go.RowKit (Below)

section
variable {C : Cx} {w w' : World} {g g' : Gh} {h : Heap} {P : Program} {T : Tab}

/-! ## Fields -/
theorem field_of (hT : TabOk P T) {t ft : TypeId} {f off : Nat} (hs : fieldOff T t f = some (ft, off)) :
    ∃ gs fd inf, P.underlying t = some (.struct gs) ∧ gs[f]? = some fd ∧ fd.type = ft ∧ fd.offset = off ∧ P.info? ft = some inf ∧ inf.size ≠ 0 := by
  unfold fieldOff at hs
  cases hti : T.ti t with
  | none => simp [hti] at hs
  | some i =>
    obtain ⟨d, size, bytes, zero, row, eqk⟩ := i
    obtain ⟨inf, u, z, g1, g2, g3, g4, g5⟩ := ti_of hT hti
    cases d <;> simp only [hti] at hs
    all_goals try (simp at hs; done)
    case struct fs =>
    obtain ⟨gs, rfl, hgs⟩ := und_struct g4
    cases hf : fs[f]? with
    | none => simp [hf] at hs
    | some p =>
      obtain ⟨ft', off'⟩ := p
      simp only [hf] at hs
      cases hft : T.ti ft' with
      | none => simp [hft] at hs
      | some ie =>
        obtain ⟨inf2, u2, z2, k1, k2, k3, k4, k5, k6⟩ := ti_of hT hft
        simp only [hft] at hs
        cases hz : ie.size with
        | zero => simp [hz] at hs
        | succ q =>
          simp only [hz, Option.some.injEq, Prod.mk.injEq] at hs
          obtain ⟨rfl, rfl⟩ := hs
          rw [← hgs, List.getElem?_map] at hf
          cases hfd : gs.toList[f]? with
          | none => rw [hfd] at hf; simp at hf
          | some fd =>
            rw [hfd] at hf
            simp only [Option.map_some, Option.some.injEq, Prod.mk.injEq] at hf
            exact ⟨gs, fd, inf2, g2, by rw [← hfd]; simp, hf.1, hf.2, k1, by omega⟩

theorem fieldAddrV_sound (hT : TabOk P T) {t : TypeId} {a v : V} {x : Value} {f : Nat} (hs : fieldAddrV T t a f = some v) (ha : RV C w g a x) :
    ∃ val, (Instr.fieldAt t x f).run P w = .ok val w ∧ RV C w g v val := by
  unfold fieldAddrV at hs
  cases hf : fieldOff T t f with
  | none => cases a <;> simp [hf] at hs
  | some p =>
    obtain ⟨ft, off⟩ := p
    obtain ⟨gs, fd, inf, h1, h2, h3, h4, h5, h6⟩ := field_of hT hf
    have run : ∀ ad : Addr, (Instr.fieldAt t (.pointer (some ad)) f).run P w = .ok (.pointer (some (ad.add off))) w := fun ad => by
      simp [Instr.fieldAt, run_underlying h1, h2, Instr.sureAddr, fieldPlace, sizeOf, typeInfo, h3, h5, h6, h4]
    cases a <;> simp only [hf] at hs
    all_goals try (simp at hs; done)
    case ptr id col =>
      simp only [Option.some.injEq] at hs
      subst hs
      simp only [RV] at ha ⊢
      obtain ⟨hU, ad, k1, rfl⟩ := ha
      exact ⟨_, run _, hU, ad, k1, by rw [add_add]⟩
    case rp cs =>
      simp only [Option.some.injEq] at hs
      subst hs
      simp only [RV] at ha ⊢
      obtain ⟨ad, vs, rfl, hF, hc, hv⟩ := ha
      refine ⟨_, run _, ad.add off, vs.drop off, rfl, by rw [add_block]; exact hF, fun j y hy => ?_, RVs_drop off hv⟩
      rw [List.getElem?_drop] at hy
      rw [add_add]
      exact hc _ y hy
    case ep id e row col =>
      simp only [Option.some.injEq] at hs
      subst hs
      simp only [RV] at ha ⊢
      obtain ⟨hU, ad, n, c, k1, rfl⟩ := ha
      exact ⟨_, run _, hU, ad, n, c, k1, by rw [add_add, Nat.add_assoc]⟩

theorem fieldV_sound (hT : TabOk P T) {t : TypeId} {a v : V} {x : Value} {f : Nat} (hs : fieldV T t a f = some v) (ha : RV C w g a x) :
    ∃ val, (Instr.field t x f).run P w = .ok val w ∧ RV C w g v val := by
  unfold fieldV at hs
  cases hf : fieldOff T t f with
  | none => cases a <;> simp [hf] at hs
  | some p =>
    obtain ⟨ft, off⟩ := p
    obtain ⟨gs, fd, inf, h1, h2, h3, h4, h5, h6⟩ := field_of hT hf
    cases a <;> simp only [hf] at hs
    all_goals try (simp at hs; done)
    case agg cs =>
    cases hft : T.ti ft with
    | none => simp [hft] at hs
    | some i =>
      obtain ⟨inf2, u2, z2, k1, k2, k3, k4, k5, k6⟩ := ti_of hT hft
      simp only [hft] at hs
      cases hb : Nat.ble (off + i.size) cs.length
      · simp [hb] at hs
      · simp only [hb] at hs
        have hle := Nat.le_of_ble_eq_true hb
        simp only [RV] at ha
        obtain ⟨vs, rfl, hv⟩ := ha
        have hvl := RVs_len hv
        rw [h5] at k1
        simp at k1
        subst k1
        have hvs := RVs_take i.size (RVs_drop off hv)
        unfold mkV at hs
        cases hag : isAggD i.d
        · simp only [hag] at hs
          split at hs
          · rename_i c hcs
            simp only [Option.some.injEq] at hs
            subst hs
            rw [hcs] at hvs
            simp only [RVs] at hvs
            obtain ⟨y, ys, hy, hrv, rfl⟩ := hvs
            refine ⟨y, ?_, hrv⟩
            have hget : vs[off]? = some y := by
              have h0 : ((vs.drop off).take i.size)[0]? = some y := by rw [hy]; rfl
              have hpos : 0 < i.size := by omega
              rw [List.getElem?_take_of_lt hpos, List.getElem?_drop] at h0
              simpa using h0
            simp [Instr.field, run_underlying h1, h2, asAgg, part, h3, h4, run_isAgg k2, k4, hag, hget]
          · simp at hs
        · simp only [hag, Option.some.injEq] at hs
          subst hs
          refine ⟨.agg ((vs.drop off).take i.size).toArray, ?_, by simp only [RV]; exact ⟨_, rfl, hvs⟩⟩
          simp [Instr.field, run_underlying h1, h2, asAgg, part, h3, h4, run_isAgg k2, k4, hag, sizeOf, typeInfo, h5, k5]

/-! ## Cuts -/
theorem run_sliceBounds (isS : Bool) (len cap : Nat) (lo hi : Option Value) {a b : Nat} (hlo : lo = none ∧ a = 0 ∨ ∃ k, lo = some (.int k (a : Int))) (hhi : hi = none ∧ b = len ∨ ∃ k, hi = some (.int k (b : Int)))
    (h1 : a ≤ b) (h2 : b ≤ cap) : (Instr.sliceBounds isS len cap lo hi none).run P w = .ok (a, b, cap) w := by
  have e1 : ∀ (k : IntKind) (code : BoundsCode), (Instr.sliceBound (.int k (b : Int)) cap code).run P w = .ok b w := fun k code => by
    simp [Instr.sliceBound, asIntOf, h2]
  have e2 : ∀ (k : IntKind) (code : BoundsCode), (Instr.sliceBound (.int k (a : Int)) b code).run P w = .ok a w := fun k code => by
    simp [Instr.sliceBound, asIntOf, h1]
  rcases hlo with ⟨rfl, rfl⟩ | ⟨k1, rfl⟩ <;> rcases hhi with ⟨rfl, rfl⟩ | ⟨k2, rfl⟩ <;> simp [Instr.sliceBounds, e1, e2]

/-- A bound as it stands, and as a number. -/
theorem optInt_rel {o : Option V} {x : Option Value} {d n : Int} (hs : optInt o d = some n) (hr : (o = none ∧ x = none) ∨ ∃ v y, o = some v ∧ x = some y ∧ RV C w g v y) :
    (x = none ∧ n = d) ∨ ∃ k, x = some (.int k n) := by
  unfold optInt at hs
  rcases hr with ⟨rfl, rfl⟩ | ⟨v, y, rfl, rfl, hv⟩
  · simp at hs; exact .inl ⟨rfl, hs.symm⟩
  · cases v <;> simp only at hs
    all_goals try (simp at hs; done)
    case i k m =>
    simp only [Option.some.injEq] at hs
    subst hs
    simp only [RV] at hv
    exact .inr ⟨k, by rw [hv.1]⟩

def OptRel (C : Cx) (w : World) (g : Gh) (o : Option V) (x : Option Value) : Prop := (o = none ∧ x = none) ∨ ∃ v y, o = some v ∧ x = some y ∧ RV C w g v y
theorem optRel_map {env : Env} {a : Act} (R : RelE C env a.tmps w g) (o : Option Operand) : OptRel C w g (o.map (rd env)) (o.map a.eval) := by
  cases o with
  | none => exact .inl ⟨rfl, rfl⟩
  | some x => exact .inr ⟨_, _, rfl, rfl, rd_rel R x⟩

theorem extract_list (l : List UInt8) (a b : Nat) : (⟨⟨l⟩⟩ : ByteArray).extract a b = ⟨⟨(l.take b).drop a⟩⟩ := by
  have : ((⟨⟨l⟩⟩ : ByteArray).extract a b).data = (⟨(l.take b).drop a⟩ : Array UInt8) := by
    simp only [ByteArray.data_extract]
    apply Array.ext'
    simp [List.extract_eq_take_drop, List.drop_take]
  cases h : (⟨⟨l⟩⟩ : ByteArray).extract a b
  rw [h] at this
  simp only at this
  rw [this]

/-- A cut of data: data. -/
theorem view_cut {e : Ty} {xs : List e.den} {x : Value} {A : Option Addr} {cap : Nat} {cells : List Value} {F : Nat → Prop} (q : View w F e xs x A cap cells) {a b : Nat} (h1 : a ≤ b) (h2 : b ≤ xs.length) :
    View w F e ((xs.take b).drop a) (.slice (if cap = a then A else A.map (·.add (a * e.cells))) (b - a) (cap - a)) (if cap = a then A else A.map (·.add (a * e.cells))) (cap - a) ((cells.take (b * e.cells)).drop (a * e.cells)) := by
  have hle := q.le
  have hlen : ((xs.take b).drop a).length = b - a := by simp; omega
  refine ⟨by rw [hlen], reps_drop e _ _ (reps_take e _ _ q.rows b) a, by rw [hlen]; omega, by have := q.max; omega, fun hn => ?_, fun ad had j u hu => ?_, fun ad had hne => ?_⟩
  · by_cases hc : cap = a
    · omega
    · rw [if_neg hc] at hn
      cases A with
      | none => have := q.nil rfl; omega
      | some _ => simp at hn
  · have hj : a * e.cells + j < cells.length := by
      have hlt := (List.getElem?_eq_some_iff.1 hu).1
      simp only [List.length_drop, List.length_take] at hlt
      omega
    by_cases hc : cap = a
    · have hxe : a = b := by omega
      subst hxe
      have : (cells.take (a * e.cells)).drop (a * e.cells) = [] := by
        apply List.drop_eq_nil_of_le; simp; omega
      rw [this] at hu; simp at hu
    · rw [if_neg hc] at had
      cases A with
      | none => simp at had
      | some ad0 =>
        simp only [Option.map_some, Option.some.injEq] at had
        subst had
        have hjb : a * e.cells + j < b * e.cells := by
          have hlt := (List.getElem?_eq_some_iff.1 hu).1
          simp only [List.length_drop, List.length_take] at hlt
          omega
        rw [List.getElem?_drop, List.getElem?_take_of_lt hjb] at hu
        rw [add_add]
        exact q.cell ad0 rfl _ u hu
  · by_cases hc : cap = a
    · exfalso
      apply hne
      apply List.eq_nil_of_length_eq_zero
      rw [hlen]; omega
    · rw [if_neg hc] at had
      cases A with
      | none => simp at had
      | some ad0 =>
        simp only [Option.map_some, Option.some.injEq] at had
        subst had
        rw [add_block]
        refine q.blk ad0 rfl (fun h0 => hne ?_)
        subst h0; simp

theorem sliceV_sound (hT : TabOk P T) (R : RelH C h w g) {t : TypeId} {a v : V} {x : Value} {lo hi mx : Option V} {lx hx mxx : Option Value} {c : List Prop} {news : Heap}
    (hs : sliceV T t a lo hi mx h = some (c, v, news)) (hc : ∀ p ∈ c, p) (ha : RV C w g a x) (hlo : OptRel C w g lo lx) (hhi : OptRel C w g hi hx) (hmx : OptRel C w g mx mxx) :
    news = [] ∧ ∃ val, (Instr.sliceAt t x lx hx mxx).run P w = .ok val w ∧ RV C w g v val := by
  unfold sliceV at hs
  cases mx with
  | some _ => simp at hs
  | none =>
    rcases hmx with ⟨_, rfl⟩ | ⟨_, _, h0, _⟩
    case inr => simp at h0
    simp only at hs
    have nums : ∀ {n : Nat} {A B : Int}, optInt lo 0 = some A → optInt hi n = some B → 0 ≤ A → A ≤ B → B ≤ n →
        ∃ a b : Nat, A = a ∧ B = b ∧ (lx = none ∧ a = 0 ∨ ∃ k, lx = some (.int k (a : Int))) ∧ (hx = none ∧ b = n ∨ ∃ k, hx = some (.int k (b : Int))) ∧ a ≤ b ∧ b ≤ n := by
      intro n A B h1 h2 h3 h4 h5
      obtain ⟨a, rfl⟩ := Int.eq_ofNat_of_zero_le h3
      obtain ⟨b, rfl⟩ := Int.eq_ofNat_of_zero_le (Int.le_trans h3 h4)
      refine ⟨a, b, rfl, rfl, ?_, ?_, by omega, by omega⟩
      · rcases optInt_rel h1 hlo with ⟨q1, q2⟩ | q
        · exact .inl ⟨q1, by omega⟩
        · exact .inr q
      · rcases optInt_rel h2 hhi with ⟨q1, q2⟩ | q
        · exact .inl ⟨q1, by omega⟩
        · exact .inr q
    have data : ∀ (v0 : V), RV C w g v0 x → (match elemT T t with
        | some (_, e, _, _) => match viewL h false e v0 with
          | some xs => match optInt lo 0, optInt hi xs.length with
            | some a, some b => some ([0 ≤ a, a ≤ b, b ≤ xs.length], V.sl e ((xs.take b.toNat).drop a.toNat), ([] : Heap))
            | _, _ => none
          | none => none
        | none => none) = some (c, v, news) → news = [] ∧ ∃ val, (Instr.sliceAt t x lx hx none).run P w = .ok val w ∧ RV C w g v val := by
      intro v0 hv0 hs
      cases he : elemT T t with
      | none => simp [he] at hs
      | some p =>
        obtain ⟨te, e, bytes, zero⟩ := p
        simp only [he] at hs
        obtain ⟨inf, z, g1, g2, g3, _⟩ := elem_of hT he
        cases hvw : viewL h false e v0 with
        | none => simp [hvw] at hs
        | some xs =>
          simp only [hvw] at hs
          obtain ⟨A, cap, cells, q, hF⟩ := viewL_sound R hvw hv0
          cases hA : optInt lo 0 with
          | none => simp [hA] at hs
          | some a0 =>
            cases hB : optInt hi xs.length with
            | none => simp [hA, hB] at hs
            | some b0 =>
              simp only [hA, hB, Option.some.injEq, Prod.mk.injEq] at hs
              obtain ⟨rfl, rfl, rfl⟩ := hs
              obtain ⟨a1, b1, rfl, rfl, n1, n2, n3, n4⟩ := nums hA hB (hc _ (by simp)) (hc _ (by simp)) (hc _ (by simp))
              simp only [Int.toNat_natCast]
              have hcut := view_cut q n3 n4
              have hFc : false = false → ∀ ad, (if cap = a1 then A else A.map (·.add (a1 * e.cells))) = some ad → ((xs.take b1).drop a1) ≠ [] → g.F ad.block := fun _ ad had hne => by
                by_cases hcc : cap = a1
                · exfalso
                  apply hne
                  apply List.eq_nil_of_length_eq_zero
                  have := q.le
                  simp; omega
                · rw [if_neg hcc] at had
                  cases A with
                  | none => simp at had
                  | some ad0 =>
                    simp only [Option.map_some, Option.some.injEq] at had
                    subst had
                    rw [add_block]
                    exact hF rfl ad0 rfl (fun h0 => hne (by subst h0; simp))
              have hrep := rep_mono (w' := w) (F' := g.F) (fun b hb => ⟨by simpa [Fown] using hb, rfl⟩) _ _ _ (hcut.rep (own := false) hFc)
              refine ⟨trivial, .slice (if cap = a1 then A else A.map (·.add (a1 * e.cells))) (b1 - a1) (cap - a1), ?_, by simp only [RV]; exact hrep⟩
              have hle := q.le
              have hb := run_sliceBounds (P := P) (w := w) true xs.length cap lx hx n1 n2 n3 (by omega)
              rw [q.val]
              simp [Instr.sliceAt, Instr.slice, run_underlying g1, hb, sizeOf, typeInfo, g2, g3]
    cases a
    case s l =>
      simp only at hs
      cases hti : T.ti t with
      | none => simp [hti] at hs
      | some i =>
        obtain ⟨d, size, bytes, zero, row, eqk⟩ := i
        obtain ⟨inf, u, z, g1, g2, g3, g4, g5⟩ := ti_of hT hti
        cases d <;> simp only [hti] at hs
        all_goals try (simp at hs; done)
        obtain rfl := und_str g4
        cases hA : optInt lo 0 with
        | none => simp [hA] at hs
        | some a0 =>
          cases hB : optInt hi l.length with
          | none => simp [hA, hB] at hs
          | some b0 =>
            simp only [hA, hB, Option.some.injEq, Prod.mk.injEq] at hs
            obtain ⟨rfl, rfl, rfl⟩ := hs
            obtain ⟨a1, b1, rfl, rfl, n1, n2, n3, n4⟩ := nums hA hB (hc _ (by simp)) (hc _ (by simp)) (hc _ (by simp))
            simp only [RV] at ha
            obtain ⟨rfl, hl⟩ := ha
            have hb := run_sliceBounds (P := P) (w := w) false l.length l.length lx hx n1 n2 n3 n4
            have hsz : (⟨⟨l⟩⟩ : ByteArray).size = l.length := rfl
            refine ⟨rfl, .string ⟨⟨(l.take b1).drop a1⟩⟩, ?_, ?_⟩
            · simp [Instr.sliceAt, Instr.slice, run_underlying g2, hsz, hb, extract_list]
            · simp only [RV, Int.toNat_natCast, true_and]
              simp; omega
    all_goals exact data _ ha hs
end
end Go.Eng
