import Derived.Test.YtbmnhcffmgicnaaEng4
import Derived.RangeFuncNested
import Derived.RangeFuncLeaves
import Derived.Test.YtbmnhcffmgicnaaEng3
import Derived.TacticsIn
import Derived.OrdersIn
/- Texts, one behind the other. -/
set_option linter.unusedVariables false
set_option linter.unusedSimpArgs false
namespace Go.Eng
open Go.RowKit
variable {P : Program} {F : Fence} {n : Nat}
structure Kept (Kx : Nat → Go.Obj → Prop) (A B : World) : Prop where
  size : A.heap.size ≤ B.heap.size
  same : ∀ b o, A.heap[b]? = some o → Kx b o → B.heap[b]? = some o
theorem Kept.refl {Kx : Nat → Go.Obj → Prop} (A : World) : Kept Kx A A := ⟨Nat.le_refl _, fun _ _ h _ => h⟩
theorem Kept.trans {Kx : Nat → Go.Obj → Prop} {A B C : World} (h : Kept Kx A B) (k : Kept Kx B C) : Kept Kx A C :=
  ⟨Nat.le_trans h.size k.size, fun b o hb hk => k.same b o (h.same b o hb hk) hk⟩
theorem Kept.less {Kx Ky : Nat → Go.Obj → Prop} {A B : World} (h : Kept Kx A B) (hk : ∀ b o, Ky b o → Kx b o) : Kept Ky A B :=
  ⟨h.size, fun b o hb k => h.same b o hb (hk b o k)⟩
end Go.Eng

set_option linter.unusedVariables false
set_option linter.unusedSimpArgs false
namespace Go.Eng
open Go.RowKit
section
variable {C : Cx} {w w' : World} {g g' : Gh} {h h' : Heap} {N n : Nat} {pins : Pins}
def Cx.step (C : Cx) (pins : Pins) (w : World) (g : Gh) (h : Heap) : Cx :=
  ⟨C.P, w, fun b => ∃ id o, lookN h id = some o ∧ o.mut = true ∧ ablk (g.anch id) = some b, g.F, pins, g.anch, C.lw, C.lK⟩

theorem RelH.inn (R : RelH C h w g) (hp : ∀ j ∈ pins.1, g.U j) : RelH (C.step pins w g h) h w g := by
  refine ⟨fun _ _ => rfl, Nat.le_refl _, rfl, rfl, rfl, R.F, fun _ hb => .inl hb, fun j hj => ⟨hp j hj, rfl⟩, ⟨fun b hb => ?_, Nat.le_trans R.lam.2 R.size⟩, fun id o ho => ⟨(R.obj id o ho).1, RO_cx (C := C) (C' := C.step pins w g h) rfl rfl rfl (fun b hm hb hM => ⟨.inl ⟨id, o, ho, hm, hb⟩, hM.2⟩) (R.obj id o ho).2⟩, R.sep⟩
  obtain ⟨h1, h2⟩ := R.lam.1 b hb
  have h3 := R.keep b h1
  refine ⟨⟨Nat.lt_of_lt_of_le h1.1 R.size, ?_⟩, h3.trans h2⟩
  rintro ⟨id, o, ho, hm, hb2⟩
  have hM := (RO_block (R.obj id o ho).2 hm hb2).2
  rcases hM.1 with hM | hM
  · exact h1.2 hM
  · have := h1.1; omega
theorem RelH.outt (R0 : RelH C h w g) (hpn : C.pins.1 = []) (R : RelH (C.step pins w g h) h' w' g') : RelH C h' w' g' := by
  have hM : ∀ b, (C.step pins w g h).M0 b → C.M0 b ∨ C.w0.heap.size ≤ b := fun b ⟨id, o, ho, hm, hb⟩ => (RO_block (R0.obj id o ho).2 hm hb).2.1
  have hM2 : ∀ b, MutOk (C.step pins w g h) g' b → MutOk C g' b := fun b ⟨h1, h2⟩ => ⟨by
    rcases h1 with h1 | h1
    · exact hM b h1
    · exact .inr (Nat.le_trans R0.size h1), h2⟩
  refine ⟨fun b hb => ?_, Nat.le_trans R0.size R.size, R.os.trans R0.os, R.tape.trans R0.tape, R.output.trans R0.output, R.F, fun b hb => ?_, fun j hj => absurd hj (by rw [hpn]; simp), R0.lam, fun id o ho => ⟨(R.obj id o ho).1, RO_cx (C := C.step pins w g h) (C' := C) rfl rfl rfl (fun b _ _ => hM2 b) (R.obj id o ho).2⟩, R.sep⟩
  · refine (R.keep b ⟨Nat.lt_of_lt_of_le hb.1 R0.size, fun hc => ?_⟩).trans (R0.keep b hb)
    rcases hM b hc with h1 | h1
    · exact hb.2 h1
    · have := hb.1; omega
  · rcases R.Fin b hb with h1 | h1 | h1
    · exact R0.Fin b h1
    · rcases hM b h1 with h2 | h2
      · exact .inr (.inl h2)
      · exact .inr (.inr h2)
    · exact .inr (.inr (Nat.le_trans R0.size h1))
theorem RelE_cx {C' : Cx} (hP : C'.P = C.P) (h1 : C'.lw = C.lw) (h2 : C'.lK = C.lK) {env : Env} {tmps : Array Value} (r : RelE C env tmps w g) : RelE C' env tmps w g := fun t v ht => by
  obtain ⟨x, q1, q2⟩ := r t v ht
  exact ⟨x, q1, RV_cx hP h1 h2 v x q2⟩
theorem RelS.inn {env : Env} {a : Act} (r : RelS C N n env h a w g) (hp : ∀ j ∈ pins.1, g.U j) : RelS (C.step pins w g h) N n env h a w g :=
  ⟨r.H.inn hp, RelE_cx (C := C) (C' := C.step pins w g h) rfl rfl rfl r.E, r.ub, r.sz, r.df⟩
theorem RelS.outt {env' : Env} {a' : Act} {m : Nat} (R0 : RelH C h w g) (hpn : C.pins.1 = []) (r : RelS (C.step pins w g h) N m env' h' a' w' g') : RelS C N m env' h' a' w' g' :=
  ⟨R0.outt hpn r.H, RelE_cx (C := C.step pins w g h) (C' := C) rfl rfl rfl r.E, r.ub, r.sz, r.df⟩
theorem RelH.kept {Kx : Nat → Go.Obj → Prop} (R : RelH (C.step pins w g h) h' w' g') (hK : ∀ b o, w.heap[b]? = some o → Kx b o → ¬ (C.step pins w g h).M0 b) : Kept Kx w w' :=
  ⟨R.size, fun b o hb hk => (R.keep b ⟨(Array.getElem?_eq_some_iff.1 hb).1, hK b o hb hk⟩).trans hb⟩

def noMap : Heap → Bool
  | [] => true
  | (_, .map _ _ _) :: _ => false
  | _ :: r => noMap r
theorem noMap_look : ∀ {h : Heap}, noMap h = true → ∀ {id : Nat} {k e : Ty} {l : List (k.den × e.den)}, ¬ lookN h id = some (.map k e l)
  | [], _, id, _, _, _, hc => by simp [lookN] at hc
  | (j, o) :: r, hn, id, k, e, l, hc => by
    simp only [lookN] at hc
    cases hb : Nat.beq j id
    · rw [hb] at hc
      refine noMap_look (h := r) ?_ hc
      cases o <;> first | exact hn | (simp [noMap] at hn)
    · rw [hb] at hc
      simp only [Option.some.injEq] at hc
      subst hc
      simp [noMap] at hn
theorem RO_cells {id : Nat} {o : Obj} (ho : RO C w g id o) (hm : o.mut = true) (hn : ∀ k e l, ¬ o = .map k e l) {b : Nat} (hb : ablk (g.anch id) = some b) : ∃ vs t, w.heap[b]? = some (.cells vs t (0, 0)) ∧ ∀ te e xs, o = .arr te e xs → t = te := by
  have row : ∀ {te : TypeId} {k m : Nat} {cs : List Value}, w.ownsRow 0 te k (g.anch id) m cs → ∃ vs, w.heap[b]? = some (.cells vs te (0, 0)) := fun {te k m cs} h1 => by
    rcases h1.2 with ⟨hv, _⟩ | ⟨g', cap, cur, hv, _, hg, _⟩
    · rw [hv] at hb; simp [ablk] at hb
    · rw [hv] at hb; simp [ablk] at hb; subst hb
      exact ⟨_, hg⟩
  cases o with
  | box cs =>
    obtain ⟨blk, vs, te, h1, h2, _⟩ := ho
    rw [h1] at hb; simp [ablk] at hb; subst hb
    exact ⟨_, _, h2, fun _ _ _ e => by cases e⟩
  | arr te e xs =>
    obtain ⟨cells, h1, _⟩ := ho
    obtain ⟨vs, hv⟩ := row h1
    exact ⟨vs, te, hv, fun _ _ _ e => by cases e; rfl⟩
  | ice e xs => simp [Obj.mut] at hm
  | map a b' l => exact absurd rfl (hn _ _ _)
  | raw te e xs =>
    obtain ⟨_, ⟨h1, _⟩ | ⟨blk, n, cur, h1, h2, _⟩⟩ := ho
    · rw [h1] at hb; simp [ablk] at hb
    · rw [h1] at hb; simp [ablk] at hb; subst hb
      exact ⟨_, _, h2, fun _ _ _ e => by cases e⟩
  | xar te e xs =>
    obtain ⟨⟨cells, h1, _⟩, _⟩ := ho
    obtain ⟨vs, hv⟩ := row h1
    exact ⟨vs, te, hv, fun _ _ _ e => by cases e⟩
  | arx te e rows =>
    obtain ⟨cells, h1, _⟩ := ho
    obtain ⟨vs, hv⟩ := row h1
    exact ⟨vs, te, hv, fun _ _ _ e => by cases e⟩

def FCells (B : Nat) (w : World) (g : Gh) : Prop := ∀ b, g.F b → B ≤ b → ∃ o : Go.Obj, w.heap[b]? = some o ∧ o.isCells = true
theorem RelS.turn {env : Env} {a : Act} {Y : World} {row : Option Nat} {B : Nat} (r : RelS C N n env h a w g) (hB : C.w0.heap.size ≤ B) (hg : w.grownBy Y row)
    (hr : ∀ k, row = some k → B ≤ k ∧ ∃ o : Go.Obj, w.heap[k]? = some o ∧ o.isCells = false) (hF : FCells B w g) (hm : noMap h = true) : RelS C N n env h a Y g ∧ FCells B Y g := by
  have R := r.H
  have hcell : ∀ b (o : Go.Obj), w.heap[b]? = some o → o.isCells = true → Y.heap[b]? = some o := fun b o hb ho => by
    refine (hg.block b (Array.getElem?_eq_some_iff.1 hb).1 (fun e => ?_)).trans hb
    obtain ⟨_, o', h1, h2⟩ := hr b e.symm
    rw [hb] at h1; cases h1; rw [ho] at h2; cases h2
  have hfr : ∀ b, g.F b → Y.heap[b]? = w.heap[b]? := fun b hb => by
    by_cases h1 : B ≤ b
    · obtain ⟨o, h2, h3⟩ := hF b hb h1
      rw [hcell b o h2 h3, h2]
    · exact hg.block b (R.F b hb) (fun e => by have := (hr b e.symm).1; omega)
  have ev : Evo w g Y g := ⟨fun b hb => ⟨hb, hfr b hb⟩, fun id hi => ⟨hi, rfl⟩⟩
  refine ⟨⟨⟨fun b hb => ?_, Nat.le_trans R.size hg.size, hg.os.trans R.os, hg.tape.trans R.tape, hg.output.trans R.output, fun b hb => Nat.lt_of_lt_of_le (R.F b hb) hg.size, R.Fin, R.pin, R.lam, fun id o ho => ?_, R.sep⟩, fun t v ht => ?_, r.ub, r.sz, r.df⟩, fun b hb h1 => ?_⟩
  · refine (hg.block b (Nat.lt_of_lt_of_le hb.1 R.size) (fun e => ?_)).trans (R.keep b hb)
    have := (hr b e.symm).1
    have := hb.1
    omega
  · obtain ⟨hU, hO⟩ := R.obj id o ho
    refine ⟨hU, RO_mono hU hO ev fun b hmu hbk => ?_⟩
    obtain ⟨vs, t, hc, _⟩ := RO_cells hO hmu (fun k e l e' => noMap_look hm (by rw [ho, e'])) hbk
    exact ⟨by rw [hcell b _ hc rfl, hc], (RO_block hO hmu hbk).2.2⟩
  · obtain ⟨x, h1, h2⟩ := r.E t v ht
    exact ⟨x, h1, RV_mono ev v x h2⟩
  · obtain ⟨o, h2, h3⟩ := hF b hb h1
    exact ⟨o, hcell b o h2 h3, h3⟩
end
end Go.Eng

set_option linter.unusedVariables false
set_option linter.unusedSimpArgs false
namespace Go.Eng
open Go.RowKit
section
variable {P : Program} {l m : Nat} {o : Oper} {a : Act} {w : World} {next next' : Act → World → Prop} {Q : Exit → Act → World → Prop}
theorem upon_in (hn : ∀ a w, next a w → next' a w) {r : Result Next} (h : o.upon P a next Q r) : o.uponIn (Fence.wide.inRound l) m P a next' Q r := by
  cases r with
  | ok nx w' =>
    cases nx with
    | value v => exact hn _ _ h
    | skip => exact hn _ _ h
    | defer d => exact hn _ _ h
    | enter f args =>
      refine ⟨fun hd => absurd hd (by simp [Fence.wide, Fence.inRound]), ?_⟩
      refine CallsIn.mono (F := Fence.wide.inRound l) (callsIn_wide.2 h : CallsIn Fence.wide (m - 1) P f args w' _) fun e w'' he => ?_
      cases e with
      | returned v => exact hn _ _ he
      | panicked chain => exact he
      | outgrown => exact he
    | row row args =>
      refine ⟨fun hd => absurd hd (by simp [Fence.wide, Fence.inRound]), fun c cs _ => ?_⟩
      obtain ⟨v, w'', h1, h2⟩ := h c cs
      exact ⟨v, w'', hn _ _ h1, stepsIn_wide.2 h2⟩
    | _ => exact h.elim
  | halt hh w' =>
    cases hh with
    | panic v => exact h
    | _ => exact h.elim
def noDefer (o : Oper) : Bool := match o.op with
  | .defer _ => false
  | _ => true
theorem wp_in (hd : noDefer o = true) (hn : ∀ a w, next a w → next' a w) (h : o.wp P a w next Q) : o.wpIn (Fence.wide.inRound l) m P a w next' Q := by
  refine ⟨fun _ _ => trivial, ?_⟩
  show o.uponIn (Fence.wide.inRound l) m P a next' Q ((o.semAt (some l) a.eval).run P w)
  rw [Oper.semAt_some l a.eval o (fun c hc => by simp [noDefer, hc] at hd)]
  exact upon_in hn h
theorem wpList_in {ops : Array Oper} (hQ : ¬ LetsOut Q) : ∀ (os : List Oper) (a : Act) (w : World), os.all noDefer = true → wpList P ops Q os a w → wpListIn (Fence.wide.inRound l) m P ops Q os a w
  | [], a, w, _, h => h
  | o :: rest, a, w, hd, h => by
    simp only [List.all_cons, Bool.and_eq_true] at hd
    unfold wpList at h
    unfold wpListIn
    split at h
    · rename_i hw
      rw [if_pos hw]
      rcases h with h | h
      · exact wp_in hd.1 (fun a w h => wpList_in hQ rest a w hd.2 h) h
      · exact absurd h.2 hQ
    · rename_i hw
      rw [if_neg hw]
      exact ⟨fun _ _ => trivial, wpList_in hQ rest _ _ hd.2 h⟩
end
def inOk : Code → Bool
  | .skip => true
  | .label _ => true
  | .exit _ => true
  | .ret => true
  | .region _ ops draw => !draw && ops.toList.all noDefer
  | .seq a b => inOk a && inOk b
  | .cond _ a b => inOk a && inOk b
  | .block _ b => inOk b
  | _ => false
section
variable {C : Cx} {w w' : World} {g g' : Gh} {h : Heap} {T : Tab} {S : Specs} {N n : Nat} {keep : List (Nat × List Nat)} {l m : Nat}
theorem vc_in (hpin : pinsOf keep = C.pins) (hT : TabOk C.P T) (hS : SpecsOk C.P S) : ∀ (c : Code) (st : St) (K : Ex → St → Prop) (a : Act) (w : World) (g : Gh), codeOk N c = true → inOk c = true → vc T S keep c st K → RelT C N st a w g →
    ∀ (Q : Exit → Act → World → Prop), ¬ LetsOut Q → (∀ e st a w g, K e st → RelT C N st a w g → Q (exOf e) a w) → c.wpIn (Fence.wide.inRound l) m C.P Q a w
  | .skip, st, K, a, w, g, _, _, hs, r, Q, hL, hQ => wpIn_skip (hQ .normal st a w g hs r)
  | .label _, st, K, a, w, g, _, _, hs, r, Q, hL, hQ => wpIn_label (hQ .normal st a w g hs r)
  | .exit id, st, K, a, w, g, _, _, hs, r, Q, hL, hQ => wpIn_exit (hQ (.exit id) st a w g hs r)
  | .ret, st, K, a, w, g, _, _, hs, r, Q, hL, hQ => wpIn_ret (hQ .ret st a w g hs r)
  | .region id ops draw, st, K, a, w, g, hok, hin, hs, r, Q, hL, hQ => by
    rw [vc_region] at hs
    unfold vcRegion at hs
    split at hs
    · rename_i k hk
      obtain ⟨env, h⟩ := st
      simp only [codeOk, List.all_eq_true] at hok
      simp only [inOk, Bool.and_eq_true, Bool.not_eq_true'] at hin
      obtain ⟨rfl, hin⟩ := hin
      unfold vregion at hs
      simp only at hs
      rw [forceN_eq] at hs
      have hK : ∀ m env h a w g, normK (pinsOf keep) k env h (fun st => K .normal st) → RelS C N m env h a w g → Q .normal a w := fun m env h a w g hk r => by
        obtain ⟨env', h', g', hk', r'⟩ := normK_sound hpin r hk
        rw [hpin] at r'
        exact hQ .normal ⟨env', h'⟩ a w g' hk' r'
      refine wpIn_region_list (wpList_in hL _ _ _ hin ?_)
      exact vops_sound hT hS hK ops.toList (frN (pinsOf keep) h) env h a w g hok hs (by rw [hpin]; exact r)
    · exact hs.elim
  | .seq x y, st, K, a, w, g, hok, hin, hs, r, Q, hL, hQ => by
    rw [vc_seq] at hs
    unfold vcSeq at hs
    simp only [codeOk, Bool.and_eq_true] at hok
    simp only [inOk, Bool.and_eq_true] at hin
    refine wpIn_seq (vc_in hpin hT hS x st _ a w g hok.1 hin.1 hs r _ (fun ⟨a, w, hc⟩ => hL ⟨a, w, hc⟩) fun e st a w g hk r => ?_)
    cases e with
    | normal => exact vc_in hpin hT hS y st K a w g hok.2 hin.2 hk r Q hL hQ
    | exit id => exact hQ (.exit id) st a w g hk r
    | ret => exact hQ .ret st a w g hk r
    | goto l => exact hQ (.goto l) st a w g hk r
  | .cond c x y, st, K, a, w, g, hok, hin, hs, r, Q, hL, hQ => by
    simp only [codeOk, Bool.and_eq_true] at hok
    simp only [inOk, Bool.and_eq_true] at hin
    cases c with
    | tmp d =>
      rw [vc_cond] at hs
      unfold vcCond at hs
      dsimp only at hs
      have ev : ∀ z, (∃ v, lookN st.env d = some v ∧ vbool v = some z) → a.eval (.tmp d) = .bool z := fun z ⟨v, h1, h2⟩ => by
        obtain ⟨x, h3, h4⟩ := r.E d v h1
        have := vbool_rel h2 h4
        subst this
        simp [Act.eval, Array.getD_eq_getD_getElem?, h3]
      split at hs
      · rename_i hl
        exact wpIn_cond_true (ev true ⟨_, hl, rfl⟩) (vc_in hpin hT hS x st K a w g hok.1 hin.1 hs r Q hL hQ)
      · rename_i hl
        exact wpIn_cond_false (ev false ⟨_, hl, rfl⟩) (vc_in hpin hT hS y st K a w g hok.2 hin.2 hs r Q hL hQ)
      · rename_i z hl
        exact wpIn_cond_split (ev z ⟨_, hl, rfl⟩) (fun hz => vc_in hpin hT hS x st K a w g hok.1 hin.1 (hs.1 hz).out r Q hL hQ) (fun hz => vc_in hpin hT hS y st K a w g hok.2 hin.2 (hs.2 hz).out r Q hL hQ)
      · exact hs.elim
    | const v => exact hs.elim
    | global n => exact hs.elim
    | func f => exact hs.elim
  | .block id body, st, K, a, w, g, hok, hin, hs, r, Q, hL, hQ => by
    rw [vc_block] at hs
    unfold vcBlock at hs
    simp only [codeOk] at hok
    simp only [inOk] at hin
    refine wpIn_block (vc_in hpin hT hS body st _ a w g hok hin hs r _ (fun ⟨a, w, hc⟩ => hL ⟨a, w, hc⟩) fun e st a w g hk r => ?_)
    cases e with
    | normal => exact hQ .normal st a w g hk r
    | exit id' =>
      simp only at hk
      simp only [exOf, Exit.inBlock]
      cases hb : Nat.beq id' id
      · rw [hb] at hk
        rw [if_neg (fun e => by subst e; simp at hb)]
        exact hQ (.exit id') st a w g hk r
      · rw [hb] at hk
        rw [if_pos (Nat.eq_of_beq_eq_true hb)]
        exact hQ .normal st a w g hk r
    | ret => exact hQ .ret st a w g hk r
    | goto l => exact hQ (.goto l) st a w g hk r
  | .loop _, _, _, _, _, _, _, hin, _, _, _, _, _ => by simp [inOk] at hin
  | .scope _, _, _, _, _, _, _, hin, _, _, _, _, _ => by simp [inOk] at hin
  | .rangeFunc _ _ _ _, _, _, _, _, _, _, hin, _, _, _, _, _ => by simp [inOk] at hin
  | .goto _, _, _, _, _, _, _, hin, _, _, _, _, _ => by simp [inOk] at hin
  | .refuse _, _, _, _, _, _, _, hin, _, _, _, _, _ => by simp [inOk] at hin
end
theorem cell_cells {w : World} {p : Addr} {v : Value} (hc : w.cell? p = some v) : ∃ o : Go.Obj, w.heap[p.block]? = some o ∧ o.isCells = true := by
  unfold World.cell? at hc
  cases ho : w.heap[p.block]? with
  | none => simp [ho] at hc
  | some o =>
    refine ⟨o, rfl, ?_⟩
    rw [ho] at hc
    cases o <;> first | rfl | (simp at hc)
theorem rep_fewer {w : World} {F F' : Nat → Prop} (hF : ∀ b (o : Go.Obj), F b → w.heap[b]? = some o → o.isCells = true → F' b) : ∀ (t : Ty) (x : t.den) (cs : List Value), rep w F t x cs → rep w F' t x cs
  | .bool, _, _, h => by simp only [rep] at h ⊢; exact h
  | .int _, _, _, h => by simp only [rep] at h ⊢; exact h
  | .str, _, _, h => by simp only [rep] at h ⊢; exact h
  | .slice e, xs, cs, h => by
    simp only [rep] at h ⊢
    obtain ⟨A, cap, h1, h2, h3, h4, h5⟩ := h
    refine ⟨A, cap, h1, h2, h3, h4, fun i hi => ?_⟩
    obtain ⟨a, ci, ha, hf, hc, hr⟩ := h5 i hi
    have hl := rep_len e _ ci hr
    have hp := cells_pos0 e
    have h0 : ci[0]? = some (ci[0]'(by omega)) := List.getElem?_eq_getElem _
    obtain ⟨o, h6, h7⟩ := cell_cells (hc 0 _ h0)
    rw [add_block] at h6
    exact ⟨a, ci, ha, hF _ o hf h6 h7, hc, rep_fewer hF e _ ci hr⟩
  | .pair a b, x, cs, h => by
    simp only [rep] at h ⊢
    obtain ⟨c1, c2, h0, h1, h2⟩ := h
    exact ⟨c1, c2, h0, rep_fewer hF a _ c1 h1, rep_fewer hF b _ c2 h2⟩
theorem reps_fewer {w : World} {F F' : Nat → Prop} (hF : ∀ b (o : Go.Obj), F b → w.heap[b]? = some o → o.isCells = true → F' b) (e : Ty) : ∀ (xs : List e.den) (cs : List Value), reps w F e xs cs → reps w F' e xs cs
  | [], _, h => h
  | x :: xs, _, ⟨c, r, h0, h1, h2⟩ => ⟨c, r, h0, rep_fewer hF e x c h1, reps_fewer hF e xs r h2⟩
def V.fine : V → Bool
  | .lam _ _ _ => false
  | .rp _ => false
  | .fn _ _ => false
  | .agg _ => false
  | .tup _ => false
  | .ifc _ _ => false
  | _ => true
section
variable {C : Cx} {w : World} {g : Gh} {h : Heap} {N n : Nat} {F' : Nat → Prop}
theorem RV_fewer (hF : ∀ b (o : Go.Obj), g.F b → w.heap[b]? = some o → o.isCells = true → F' b) {v : V} {x : Value} (hf : v.fine = true) (hv : RV C w g v x) : RV C w ⟨g.anch, F', g.U⟩ v x := by
  cases v <;> simp only [V.fine] at hf <;> first | (cases hf; done) | (simp only [RV] at hv ⊢; exact hv) | (simp only [RV]; done) | skip
  case sl e xs => simp only [RV] at hv ⊢; exact rep_fewer hF _ _ _ hv
  case os e f xs => simp only [RV] at hv ⊢; exact ⟨rep_fewer hF _ _ _ hv.1, hv.2⟩
theorem RVs_fewer (hF : ∀ b (o : Go.Obj), g.F b → w.heap[b]? = some o → o.isCells = true → F' b) : ∀ {cs : List V} {vs : List Value}, cs.all V.fine = true → RVs C w g cs vs → RVs C w ⟨g.anch, F', g.U⟩ cs vs
  | [], _, _, h => by simp only [RVs] at h ⊢; exact h
  | c :: cs, _, hf, h => by
    simp only [List.all_cons, Bool.and_eq_true] at hf
    simp only [RVs] at h ⊢
    obtain ⟨x, xs, h0, h1, h2⟩ := h
    exact ⟨x, xs, h0, RV_fewer hF hf.1 h1, RVs_fewer hF hf.2 h2⟩
def fineO : Obj → Bool
  | .box cs => cs.all V.fine
  | .arr _ _ _ => true
  | _ => false
def fineH : Heap → Bool
  | [] => true
  | (_, o) :: r => fineO o && fineH r
theorem fineH_look : ∀ {h : Heap} {id : Nat} {o : Obj}, fineH h = true → lookN h id = some o → fineO o = true
  | [], _, _, _, hc => by simp [lookN] at hc
  | (j, o') :: r, id, o, hf, hc => by
    simp only [fineH, Bool.and_eq_true] at hf
    simp only [lookN] at hc
    cases hb : Nat.beq j id
    · rw [hb] at hc; exact fineH_look hf.2 hc
    · rw [hb] at hc; simp only [Option.some.injEq] at hc; subst hc; exact hf.1
theorem RelS.fewer {env : Env} {a : Act} (r : RelS C N n env h a w g) (B : Nat) (he : env.all (fun p => p.2.fine) = true) (hh : fineH h = true) :
    ∃ F', (∀ b, F' b → g.F b) ∧ RelS C N n env h a w ⟨g.anch, F', g.U⟩ ∧ FCells B w ⟨g.anch, F', g.U⟩ := by
  have R := r.H
  have hF : ∀ b (o : Go.Obj), g.F b → w.heap[b]? = some o → o.isCells = true → (g.F b ∧ (B ≤ b → ∃ o : Go.Obj, w.heap[b]? = some o ∧ o.isCells = true)) := fun b o h1 h2 h3 => ⟨h1, fun _ => ⟨o, h2, h3⟩⟩
  have hM : ∀ b, MutOk C g b → MutOk C ⟨g.anch, fun b => g.F b ∧ (B ≤ b → ∃ o : Go.Obj, w.heap[b]? = some o ∧ o.isCells = true), g.U⟩ b := fun b ⟨h1, h2⟩ => ⟨h1, fun h3 => h2 h3.1⟩
  refine ⟨fun b => g.F b ∧ (B ≤ b → ∃ o : Go.Obj, w.heap[b]? = some o ∧ o.isCells = true), fun b hb => hb.1, ⟨⟨R.keep, R.size, R.os, R.tape, R.output, fun b hb => R.F b hb.1, fun b hb => R.Fin b hb.1, R.pin, R.lam, fun id o ho => ?_, R.sep⟩, fun t v ht => ?_, r.ub, r.sz, r.df⟩, fun b hb h1 => hb.2 h1⟩
  · obtain ⟨hU, hO⟩ := R.obj id o ho
    refine ⟨hU, ?_⟩
    have hfo := fineH_look hh ho
    cases o <;> simp only [fineO] at hfo <;> first | (cases hfo; done) | skip
    case box cs =>
      obtain ⟨blk, vs, te, q1, q2, q3, q4, q5⟩ := hO
      exact ⟨blk, vs, te, q1, q2, RVs_fewer hF hfo q3, q4, hM _ q5⟩
    case arr te e xs =>
      obtain ⟨cells, q1, q2, q3, q4⟩ := hO
      exact ⟨cells, q1, reps_fewer hF e xs cells q2, q3, fun b hb => hM b (q4 b hb)⟩
  · obtain ⟨x, h1, h2⟩ := r.E t v ht
    have hfv : v.fine = true := by
      have hmem := lookN_mem env t v ht
      exact List.all_eq_true.1 he _ hmem
    exact ⟨x, h1, RV_fewer hF hfv h2⟩
end
end Go.Eng

set_option linter.unusedVariables false
set_option linter.unusedSimpArgs false
namespace Go.Eng
open Go.RowKit
theorem psoundC {P : Program} {f : FuncId} {s : PSpec}
    (hc : ∀ (w : World) (F : Nat → Prop) (xs : ADen s.args) (vals : List Value), (∀ b, F b → b < w.heap.size) → RVs (Cx.at P w F) w (Gh.at F) (argsV s.args xs) vals → s.pre xs →
      Calls P f vals.toArray w fun e w' => ∃ v h' x g', readRes s.res v h' = some (s.fn xs) ∧ e = .returned x ∧ RelH (Cx.at P w F) h' w' g' ∧ RV (Cx.at P w F) w' g' v x) : PSound P f s := by
  intro w F xs vals hF hv hpre
  refine (hc w F xs vals hF hv hpre).mono fun e w' ⟨v, h', x, g', hpost, he, R, hx⟩ => ?_
  refine ⟨x, ?_⟩
  unfold readRes at hpost
  split at hpost
  · rename_i vs hparts
    split at hpost
    · rename_i hchk
      simp only [Bool.and_eq_true] at hchk
      obtain ⟨F1, R1, e1, _⟩ := freezeAll_sound (w := w') (dRs s.res vs) h' g' R
      have hnd := nodupN_nodup _ hchk.1
      have hle : (oRs s.res vs).length ≤ 8 := Nat.le_of_ble_eq_true hchk.2
      let g2 : Gh := ⟨oAnch g' (oRs s.res vs), fun b => F b ∨ F1 b, fun k => k < (oRs s.res vs).length⟩
      have hM : ∀ b, MutOk (Cx.at P w F) ⟨g'.anch, F1, g'.U⟩ b → MutOk (Cx.at P w F) g2 b := fun b ⟨q1, q2⟩ => by
        refine ⟨q1, fun hb => ?_⟩
        rcases hb with hb | hb
        · have := hF b hb
          rcases q1 with q1 | q1
          · exact q1.elim
          · simp only [Cx.at] at q1; omega
        · exact q2 hb
      have hl1 := readRs_len _ _ _ hpost
      have main := fun us (hus : RVs (Cx.at P w F) w' ⟨g'.anch, F1, g'.U⟩ vs us) => readRs_sound (C' := Cx.at P w F) R1 (g2 := g2) (os := oRs s.res vs) (fun k => rfl) (fun k hk => hk) (fun b hb => .inr hb) (fun _ _ b _ _ => hM b) s.res vs (s.fn xs) us 0 hpost hus (fun j c hc => by rw [Nat.zero_add]; exact hc)
      have hval := resV_rel (g := ⟨g'.anch, F1, g'.U⟩) (g' := g2) hparts (RV_mono e1 v x hx) hl1 (fun us hus => (main us hus).1)
      -- there is a row of values
      obtain ⟨us, hus⟩ : ∃ us, RVs (Cx.at P w F) w' ⟨g'.anch, F1, g'.U⟩ vs us := by
        unfold partsOf at hparts
        split at hparts
        · simp at hparts; subst hparts
          exact ⟨[x], by simp only [RVs]; exact ⟨x, [], rfl, RV_mono e1 _ _ hx, rfl⟩⟩
        · cases v <;> simp at hparts
          subst hparts
          have := RV_mono e1 _ _ hx
          simp only [RV] at this
          obtain ⟨us, _, h2⟩ := this
          exact ⟨us, h2⟩
      have hobj := (main us hus).2
      have hblk : ∀ id c b, (oRs s.res vs)[id]? = some c → ablk (g2.anch id) = some b → ∃ i, c = .own i ∧ ablk (g'.anch i) = some b := fun id c b hc hb => by
        simp only [g2, oAnch, hc] at hb
        cases c <;> simp [ablk] at hb
        exact ⟨_, rfl, by simpa [ablk] using hb⟩
      refine ⟨g2, he, ⟨R.os, R.tape, R.output, R.size, fun k hk => R.keep k ⟨hk, fun h => h⟩⟩, fun b hb => .inl hb, fun b hb => ?_, fun id h => h.elim, fun id hid => .inr ⟨Nat.zero_le _, by simp only [g2] at hid; omega⟩, hval, fun id o ho => ?_, fun id o id' o' b h1 h2 m1 m2 hb1 hb2 => ?_⟩
      · rcases hb with hb | hb
        · exact .inl hb
        · rcases R1.Fin b hb with h1 | h1 | h1
          · exact .inl h1
          · exact h1.elim
          · exact .inr ⟨h1, R1.F b hb⟩
      · obtain ⟨q1, q2, q3, c, q4, q5⟩ := hobj id o ho
        have hid : id < (oRs s.res vs).length := (List.getElem?_eq_some_iff.1 q4).1
        refine ⟨⟨Nat.zero_le _, by omega⟩, hid, q3, fun b hb => ?_⟩
        cases hm : o.mut
        · exfalso
          have : ∀ (l : List RS) (y : RDen l) (k : Nat), lookN (rsH l y k) id = some o → o.mut = true := by
            have hps : ∀ (l : List RK) (y : PDen l) (k : Nat), lookN (psH l y k) id = some o → o.mut = true := by
              intro l
              induction l with
              | nil => intro y k h; simp [psH, lookN] at h
              | cons r rs ih =>
                intro y k h
                cases r with
                | d t => exact ih _ _ h
                | o te e =>
                  simp only [psH, lookN] at h
                  split at h
                  · simp at h; subst h; rfl
                  · exact ih _ _ h
            intro l
            induction l with
            | nil => intro y k h; simp [rsH, lookN] at h
            | cons r rs ih =>
              intro y k h
              simp only [rsH] at h
              rw [lookN_app] at h
              split at h
              · rename_i o' ho'
                simp at h; subst h
                exact hps _ _ _ ho'
              · exact ih _ _ h
          rw [this _ _ _ ho] at hm; cases hm
        · rcases (RO_block q3 hm hb).2.1 with h1 | h1
          · exact h1.elim
          · exact h1
      · obtain ⟨_, _, _, c, q4, q5⟩ := hobj id o h1
        obtain ⟨_, _, _, c', s4, s5⟩ := hobj id' o' h2
        obtain ⟨i, rfl, hi⟩ := hblk id c b q4 hb1
        obtain ⟨i', rfl, hi'⟩ := hblk id' c' b s4 hb2
        have hii : i = i' := by
          rcases q5 with q5 | ⟨j, te, e, ys, q5, q6⟩
          · cases q5
          rcases s5 with s5 | ⟨j', te', e', ys', s5, s6⟩
          · cases s5
          cases q5; cases s5
          exact R1.sep i _ i' _ b q6 s6 rfl rfl hi hi'
        subst hii
        exact ownIds_inj _ hnd _ _ _ q4 s4
    · simp at hpost
  · simp at hpost

section
variable {C : Cx} {w w' : World} {g g' : Gh} {h : Heap} {T : Tab} {S : Specs} {N n : Nat}
end
section
variable {P : Program} {m : Nat} {o : Oper} {a : Act} {w : World} {next next' : Act → World → Prop} {Q Q' : Exit → Act → World → Prop} {ds : List Deferred}
end
section
variable {C : Cx} {w w' : World} {g g' : Gh} {h : Heap} {T : Tab} {S : Specs} {N n : Nat} {keep : List (Nat × List Nat)} {m : Nat} {ds : List Deferred}
end
end Go.Eng

set_option linter.unusedVariables false
set_option linter.unusedSimpArgs false
namespace Go.Eng
open Go.RowKit
section
variable {C : Cx} {T : Tab} {S : Specs} {N : Nat} {keep : List (Nat × List Nat)} {l m : Nat} {ids : List Nat} {A : Nat → Value} {D B : Nat} {st st' : St} {a a' : Act} {W W' : World} {g : Gh}
structure StR (C : Cx) (N : Nat) (ids : List Nat) (A : Nat → Value) (D B : Nat) (st : St) (a : Act) (W : World) (g : Gh) : Prop where
  r : RelT C N st a W g
  fc : FCells B W g
  pin : ∀ j ∈ ids, g.anch j = A j
  far : ∀ id o b, lookN st.heap id = some o → o.mut = true → ¬ id ∈ ids → ablk (g.anch id) = some b → D ≤ b
def StI (C : Cx) (N : Nat) (ids : List Nat) (A : Nat → Value) (D B : Nat) (st : St) (a : Act) (W : World) : Prop := ∃ g, StR C N ids A D B st a W g

theorem StI.own {β : Type} (f : β → St) (fa : β → Act) (hm : ∀ s, noMap (f s).heap = true) (hB : C.w0.heap.size ≤ B) : OwnFrom B (fun s W => StI C N ids A D B (f s) (fa s) W) := fun s X Y row ⟨g, k⟩ hg hr =>
  let ⟨r', fc'⟩ := k.r.turn hB hg hr k.fc (hm s)
  ⟨g, r', fc', k.pin, k.far⟩
def pinned (ids : List Nat) (h : Heap) : Bool := ids.all fun j => match lookN h j with
  | some o => o.mut
  | none => false
theorem pinned_look (hp : pinned ids st.heap = true) {j : Nat} (hj : j ∈ ids) : ∃ o, lookN st.heap j = some o ∧ o.mut = true := by
  have h1 := List.all_eq_true.1 hp j hj
  split at h1
  · rename_i o ho; exact ⟨o, ho, h1⟩
  · cases h1
def roundK (st' : St) : Ex → St → Prop
  | .normal, s => Leaf (s = st')
  | _, _ => False
theorem StI.step (hC : C.pins = ([], 0)) (hpin : pinsOf keep = (ids, ids.length)) (hT : TabOk C.P T) (hS : SpecsOk C.P S) {c : Code} (hok : codeOk N c = true) (hin : inOk c = true)
    (hp : pinned ids st.heap = true) (hp' : pinned ids st'.heap = true) (hl : ids.length ≤ st.heap.length) (hl' : ids.length ≤ st'.heap.length) (hm : noMap st.heap = true) (he : st'.env.all (fun p => p.2.fine) = true) (hf : fineH st'.heap = true)
    (hs : vc T S keep c st (roundK st')) {Kx : Nat → Go.Obj → Prop} (hK1 : ∀ j ∈ ids, ∀ b o, ablk (A j) = some b → o.isCells = true → ¬ Kx b o) (hK2 : ∀ b o, D ≤ b → o.isCells = true → ¬ Kx b o)
    (k : StI C N ids A D B st a W) (hD : D ≤ W.heap.size) :
    c.wpIn (Fence.wide.inRound l) m C.P (fun e a' W' => e = .normal ∧ StI C N ids A D B st' a' W' ∧ Kept Kx W W') a W := by
  obtain ⟨g, k⟩ := k
  have hfr : ∀ h : Heap, frN C.pins h = h.length := fun h => by rw [hC]; simp [frN]
  have hfr' : ∀ h : Heap, ids.length ≤ h.length → frN (ids, ids.length) h = h.length := fun h hh => by simp only [frN]; omega
  have r1 : RelT (C.step (ids, ids.length) W g st.heap) N st a W g := by
    have := k.r.inn (pins := (ids, ids.length)) (fun j hj => by obtain ⟨o, ho, _⟩ := pinned_look hp hj; exact (k.r.H.obj j o ho).1)
    show RelS _ N (frN (ids, ids.length) st.heap) _ _ _ _ _
    rw [hfr' _ hl, ← hfr st.heap]; exact this
  refine vc_in (C := C.step (ids, ids.length) W g st.heap) hpin hT hS c st _ a W g hok hin hs r1 _ (fun ⟨_, _, hc⟩ => by cases hc.1) fun e s a3 W3 g3 hk r3 => ?_
  cases e with
  | normal =>
    obtain rfl := Leaf.out hk
    have r4 := RelS.outt k.r.H (by rw [hC]) r3
    obtain ⟨F', hF1, r5, fc⟩ := r4.fewer B he hf
    have hpn : ∀ j ∈ ids, g3.anch j = g.anch j := fun j hj => (r3.H.pin j hj).2
    refine ⟨rfl, ⟨⟨g3.anch, F', g3.U⟩, ⟨?_, fc, fun j hj => (hpn j hj).trans (k.pin j hj), fun id o b ho hmu hid hb => ?_⟩⟩, r3.H.kept fun b o hb hk hM => ?_⟩
    · show RelS C N (frN C.pins s.heap) _ _ _ _ _
      rw [hfr]
      have : frN (C.step (ids, ids.length) W g st.heap).pins s.heap = s.heap.length := hfr' _ hl'
      rw [← this]; exact r5
    · have hM := (RO_block (r3.H.obj id o ho).2 hmu hb).2.1
      rcases hM with ⟨id0, o0, ho0, hmu0, hb0⟩ | hM
      · by_cases hi : id0 ∈ ids
        · exfalso
          obtain ⟨o1, ho1, hmu1⟩ := pinned_look hp' hi
          have := r3.H.sep id0 o1 id o b ho1 ho hmu1 hmu (by rw [hpn id0 hi]; exact hb0) hb
          subst this
          exact hid hi
        · exact k.far id0 o0 b ho0 hmu0 hi hb0
      · exact Nat.le_trans hD hM
    · obtain ⟨id0, o0, ho0, hmu0, hb0⟩ := hM
      obtain ⟨vs, t, hc, _⟩ := RO_cells (k.r.H.obj id0 o0 ho0).2 hmu0 (fun k' e' l' e1 => noMap_look hm (by rw [ho0, e1])) hb0
      rw [hb] at hc
      cases hc
      by_cases hi : id0 ∈ ids
      · exact hK1 id0 hi b _ (by rw [← k.pin id0 hi]; exact hb0) rfl hk
      · exact hK2 b _ (k.far id0 o0 b ho0 hmu0 hi hb0) rfl hk
  | exit id => exact hk.elim
  | ret => exact hk.elim
  | goto l => exact hk.elim
theorem res_sound (hT : TabOk C.P T) {fn : Func} {Post : V → Heap → Prop} {w : World} {g : Gh} (r : RelT C N st a w g)
    (hk : match resVs T st fn.results.toList with
      | none => False
      | some [v] => forceV v fun v => Leaf (Post v st.heap)
      | some vs => forceVs vs fun vs => Leaf (Post (.tup vs) st.heap)) : ∃ v, (results fn a.tmps).run C.P w = .ok v w ∧ ∃ v' h' x g', Post v' h' ∧ Ending.returned v = .returned x ∧ RelH C h' w g' ∧ RV C w g' v' x := by
  have run : ∀ vs, resVs T st fn.results.toList = some vs → ∃ xs : List Value, (results fn a.tmps).run C.P w = .ok (if h : xs.toArray.size = 1 then xs.toArray[0] else .tuple xs.toArray) w ∧ RVs C w g vs xs := fun vs hvs => by
    obtain ⟨xs, h1, h2⟩ := resVs_sound hT r _ _ hvs
    refine ⟨xs, ?_, h2⟩
    rw [results_eq, Array.mapM_eq_mapM_toList]
    simp only [Sem.run_bind, Sem.run_map, h1, Result.andThen_ok, Sem.run_pure]
  cases hr : resVs T st fn.results.toList with
  | none => rw [hr] at hk; exact hk.elim
  | some vs =>
    rw [hr] at hk
    obtain ⟨xs, h1, h2⟩ := run vs hr
    match vs, hk, h2 with
    | [], hk, h2 =>
      simp only [RVs] at h2
      subst h2
      dsimp only at hk
      rw [forceVs_eq] at hk
      exact ⟨_, h1, .tup [], st.heap, _, g, hk.out, rfl, r.H, by simp [RV, RVs]⟩
    | [v], hk, h2 =>
      simp only [RVs] at h2
      obtain ⟨x, _, rfl, h3, rfl⟩ := h2
      dsimp only at hk
      rw [forceV_eq] at hk
      exact ⟨_, h1, v, st.heap, _, g, hk.out, rfl, r.H, by simpa using h3⟩
    | v1 :: v2 :: vs, hk, h2 =>
      dsimp only at hk
      rw [forceVs_eq] at hk
      have hl := RVs_len h2
      have hne : ¬ xs.toArray.size = 1 := by simp at hl ⊢; omega
      rw [dif_neg hne] at h1
      exact ⟨_, h1, .tup (v1 :: v2 :: vs), st.heap, _, g, hk.out, rfl, r.H, by simp only [RV]; exact ⟨xs, rfl, h2⟩⟩
end
end Go.Eng

set_option linter.unusedVariables false
set_option linter.unusedSimpArgs false
namespace Go.Eng
open Go.RowKit
noncomputable def preC (n : Nat) : Code → Code :=
  Nat.rec (motive := fun _ => Code → Code) (fun _ => .skip) (fun _ ih c => match c with
    | .seq x y => .seq x (ih y)
    | _ => .skip) n
noncomputable def sufC (n : Nat) : Code → Code :=
  Nat.rec (motive := fun _ => Code → Code) (fun c => c) (fun _ ih c => match c with
    | .seq x y => ih y
    | c => c) n
def finK (T : Tab) (fn : Func) (Post : V → Heap → Prop) (e : Ex) (st : St) : Prop :=
  match e with
  | .normal => (match resVs T st fn.results.toList with
      | none => False
      | some [v] => forceV v fun v => Leaf (Post v st.heap)
      | some vs => forceVs vs fun vs => Leaf (Post (.tup vs) st.heap))
  | .ret => (match resVs T st fn.results.toList with
      | none => False
      | some [v] => forceV v fun v => Leaf (Post v st.heap)
      | some vs => forceVs vs fun vs => Leaf (Post (.tup vs) st.heap))
  | _ => False
def midK (T : Tab) (S : Specs) (keep : List (Nat × List Nat)) (fn : Func) (Post : V → Heap → Prop) (l : List (WP × WK)) (y : Code) (e : Ex) (st : St) : Prop :=
  match e with
  | .normal => weakK (pinsOf keep) l st fun st => vc T S keep y st (finK T fn Post)
  | .ret => finK T fn Post .ret st
  | _ => False
def vfunW (T : Tab) (S : Specs) (keep : List (Nat × List Nat)) (fn : Func) (n : Nat) (l : List (WP × WK)) (args : List V) (h : Heap) (Post : V → Heap → Prop) : Prop :=
  match fn.body with
  | none => False
  | some c => vc T S keep (preC n c) ⟨paramEnv 0 args, h⟩ (midK T S keep fn Post l (sufC n c))
section
variable {C : Cx} {w w' : World} {g g' : Gh} {h : Heap} {T : Tab} {S : Specs} {N : Nat} {keep : List (Nat × List Nat)}
theorem codeOk_suf : ∀ (n : Nat) (c : Code), codeOk N c = true → codeOk N (sufC n c) = true
  | 0, c, h => h
  | n + 1, c, h => by
    cases c <;> first | exact h | skip
    case seq x y =>
      simp only [codeOk, Bool.and_eq_true] at h
      exact codeOk_suf n y h.2
theorem chain_sound (hpin : pinsOf keep = C.pins) (hT : TabOk C.P T) (hS : SpecsOk C.P S) (hmix : C.P.follows .mixedOrders = true) {K1 : Ex → St → Prop} {Q : Exit → Act → World → Prop} :
    ∀ (n : Nat) (c : Code) (st : St) (a : Act) (w : World) (g : Gh), codeOk N c = true → vc T S keep (preC n c) st K1 → RelT C N st a w g →
    (∀ st a w g, K1 .normal st → RelT C N st a w g → (sufC n c).wp C.P Q a w) → (∀ e st a w g, e ≠ .normal → K1 e st → RelT C N st a w g → Q (exOf e) a w) → c.wp C.P Q a w
  | 0, c, st, a, w, g, hok, hs, r, h1, h2 => h1 st a w g hs r
  | n + 1, c, st, a, w, g, hok, hs, r, h1, h2 => by
    cases c <;> first | exact h1 st a w g hs r | skip
    case seq x y =>
      simp only [codeOk, Bool.and_eq_true] at hok
      have hs : vcSeq (vc T S keep x) (vc T S keep (preC n y)) st K1 := hs
      unfold vcSeq at hs
      refine wp_seq (vc_sound hpin hT hS hmix x st _ a w g hok.1 hs r _ fun e st a w g hk r => ?_)
      cases e with
      | normal => exact chain_sound hpin hT hS hmix n y st a w g hok.2 hk r h1 h2
      | exit id => exact h2 _ st a w g (by simp) hk r
      | ret => exact h2 _ st a w g (by simp) hk r
      | goto l => exact h2 _ st a w g (by simp) hk r
theorem fin_sound (hT : TabOk C.P T) {fn : Func} {Post : V → Heap → Prop} {st : St} {a : Act} {e : Ex} (hk : finK T fn Post e st) (r : RelT C N st a w g) :
    bodyPost C.P fn (fun e w' => ∃ v h' x g', Post v h' ∧ e = .returned x ∧ RelH C h' w' g' ∧ RV C w' g' v x) (exOf e) a w := by
  cases e with
  | normal => exact ⟨r.df, res_sound hT r hk⟩
  | ret => exact ⟨r.df, res_sound hT r hk⟩
  | exit id => exact hk.elim
  | goto l => exact hk.elim
theorem vfunW_sound (hpin : pinsOf keep = C.pins) (hT : TabOk C.P T) (hS : SpecsOk C.P S) (hmix : C.P.follows .mixedOrders = true) {f : FuncId} {fn : Func} (hf : C.P.funcs[f]? = some fn) {args : List V} {vals : List Value} {Post : V → Heap → Prop}
    (hok : (match fn.body with | some c => codeOk fn.ntmps c | none => false) = true) (hn : vals.length ≤ fn.ntmps) {n : Nat} {l : List (WP × WK)} (hs : vfunW T S keep fn n l args h Post) (R : RelH C h w g) (hU : ∀ id, g.U id → id < frN C.pins h) (hv : RVs C w g args vals) :
    Calls C.P f vals.toArray w fun e w' => ∃ v h' x g', Post v h' ∧ e = .returned x ∧ RelH C h' w' g' ∧ RV C w' g' v x := by
  unfold vfunW at hs
  cases hb : fn.body with
  | none => simp [hb] at hs
  | some c =>
    simp only [hb] at hs hok
    refine calls_of_wp hf hb ?_
    have hsz : (vals.toArray ++ Array.replicate (fn.ntmps - vals.toArray.size) undef).size = fn.ntmps := by simp; omega
    have r : RelT C fn.ntmps ⟨paramEnv 0 args, h⟩ { tmps := vals.toArray ++ Array.replicate (fn.ntmps - vals.toArray.size) undef, defers := [] } w g := by
      refine ⟨R, fun t v ht => ?_, hU, hsz, rfl⟩
      obtain ⟨_, h2⟩ := paramEnv_look args 0 t v ht
      rw [Nat.sub_zero] at h2
      obtain ⟨x, h3, h4⟩ := RVs_at hv h2
      refine ⟨x, ?_, h4⟩
      have hlt := (List.getElem?_eq_some_iff.1 h3).1
      simp only
      rw [Array.getElem?_append_left (by simpa using hlt)]
      simpa using h3
    refine chain_sound hpin hT hS hmix n c _ _ w g hok hs r (fun st a w g hk r => ?_) fun e st a w g he hk r => ?_
    · obtain ⟨st', g', hk', r'⟩ := weakK_sound hpin hk r
      exact vc_sound hpin hT hS hmix _ _ _ a w g' (codeOk_suf n c hok) hk' r' _ fun e st a w g hk r => fin_sound hT hk r
    · cases e with
      | normal => exact absurd rfl he
      | ret => exact fin_sound hT hk r
      | exit id => exact hk.elim
      | goto l => exact hk.elim
end
theorem psoundW {P : Program} {T : Tab} {S : Specs} {keep : List (Nat × List Nat)} (n : Nat) (l : List (WP × WK)) (hpin : pinsOf keep = ([], 0)) (hT : TabOk P T) (hS : SpecsOk P S) (hmix : P.follows .mixedOrders = true) {f : FuncId} {fn : Func} (hf : P.funcs[f]? = some fn) {s : PSpec}
    (hok : (match fn.body with | some c => codeOk fn.ntmps c | none => false) = true) (hn : s.args.length ≤ fn.ntmps)
    (hs : ∀ xs, GoodA s.args xs → s.pre xs → vfunW T S keep fn n l (argsV s.args xs) [] (fun v h' => readRes s.res v h' = some (s.fn xs))) : PSound P f s := by
  refine psoundC fun w F xs vals hF hv hpre => ?_
  have hl := RVs_len hv
  rw [argsV_len] at hl
  exact vfunW_sound (C := Cx.at P w F) (g := Gh.at F) hpin hT hS hmix hf hok (by omega) (hs xs (argsV_good _ _ _ hv) hpre) (RelH.at P w F hF) (fun id h => h.elim) hv
end Go.Eng
