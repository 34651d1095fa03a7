import Derived.Test.YtlfehkoklgmjjaaEngC
import Derived.Laws.CopyRow
import Derived.Laws.Tables
import Derived.Laws.Rows
import Derived.Laws.MakeOwn
import Derived.Laws.IdiomStrings
import Derived.Deep.AppendLies
/- Each operation does what the abstract step says: memory. -/
set_option linter.unusedVariables false
set_option linter.unusedSimpArgs false
namespace Go.Eng
open Go.RowKit (Below)

structure RelH (C : Cx) (h : Heap) (w : World) (g : Gh) : Prop where
  keep : ∀ b, C.K b → w.heap[b]? = C.w0.heap[b]?
  size : C.w0.heap.size ≤ w.heap.size
  os : w.os = C.w0.os
  tape : w.tape = C.w0.tape
  output : w.output = C.w0.output
  F : ∀ b, g.F b → b < w.heap.size
  Fin : ∀ b, g.F b → C.F0 b ∨ C.M0 b ∨ C.w0.heap.size ≤ b
  pin : C.Pin g
  lam : (∀ b, C.lK b → C.K b ∧ C.w0.heap[b]? = C.lw.heap[b]?) ∧ C.lw.heap.size ≤ C.w0.heap.size
  obj : ∀ id o, lookN h id = some o → g.U id ∧ RO C w g id o
  sep : ∀ id o id' o' b, lookN h id = some o → lookN h id' = some o' → o.mut = true → o'.mut = true → ablk (g.anch id) = some b → ablk (g.anch id') = some b → id = id'
def RelE (C : Cx) (env : Env) (tmps : Array Value) (w : World) (g : Gh) : Prop :=
  ∀ t v, lookN env t = some v → ∃ x, tmps[t]? = some x ∧ RV C w g v x
def FreshIds (g : Gh) (fresh : Nat) : Prop := ∀ id, fresh ≤ id → id < fresh + 8 → ¬ g.U id

/-- What a quiet operation leaves: nothing that was there has turned. -/
structure QRes (C : Cx) (w : World) (g : Gh) (fresh : Nat) (v : V) (news : Heap) (x : Value) (w' : World) (g' : Gh) : Prop where
  below : Below w.heap.size w w'
  F : ∀ b, g.F b → g'.F b
  Fnew : ∀ b, g'.F b → g.F b ∨ (w.heap.size ≤ b ∧ b < w'.heap.size)
  A : ∀ id, g.U id → g'.U id ∧ g'.anch id = g.anch id
  U : ∀ id, g'.U id → g.U id ∨ (fresh ≤ id ∧ id < fresh + 8)
  val : RV C w' g' v x
  neu : ∀ id o, lookN news id = some o → (fresh ≤ id ∧ id < fresh + 8) ∧ g'.U id ∧ RO C w' g' id o ∧ (∀ b, ablk (g'.anch id) = some b → w.heap.size ≤ b)
  sep : ∀ id o id' o' b, lookN news id = some o → lookN news id' = some o' → o.mut = true → o'.mut = true → ablk (g'.anch id) = some b → ablk (g'.anch id') = some b → id = id'

section
variable {C : Cx} {w w' : World} {g g' : Gh} {h : Heap} {fresh : Nat} {v : V} {news : Heap} {x : Value}

theorem QRes.pure (hv : RV C w g v x) : QRes C w g fresh v [] x w g :=
  ⟨Below.refl _ _, fun _ h => h, fun _ h => .inl h, fun _ h => ⟨h, rfl⟩, fun _ h => .inl h, hv, fun _ _ h => by simp [lookN] at h, fun _ _ _ _ _ h => by simp [lookN] at h⟩
theorem QRes.evo (q : QRes C w g fresh v news x w' g') (hF : ∀ b, g.F b → b < w.heap.size) : Evo w g w' g' :=
  ⟨fun b hb => ⟨q.F b hb, q.below.block b (hF b hb)⟩, q.A⟩

theorem lookN_append {α : Type} : ∀ (a b : List (Nat × α)) (t : Nat), lookN (a ++ b) t = (lookN a t).or (lookN b t)
  | [], b, t => by simp [lookN]
  | (k, v) :: a, b, t => by
    simp only [List.cons_append, lookN]
    cases Nat.beq k t
    · exact lookN_append a b t
    · simp

/-- A block of a mutable thing is there. -/
theorem RO_block {id : Nat} {o : Obj} (ho : RO C w g id o) (hm : o.mut = true) {b : Nat} (hb : ablk (g.anch id) = some b) : b < w.heap.size ∧ MutOk C g b := by
  cases o with
  | box cs =>
    obtain ⟨blk, vs, te, h1, h2, _, _, h5⟩ := ho
    rw [h1] at hb; simp [ablk] at hb; subst hb
    exact ⟨(Array.getElem?_eq_some_iff.1 h2).1, h5⟩
  | arr te e xs =>
    obtain ⟨cells, h1, _, _, h4⟩ := ho
    refine ⟨?_, h4 b hb⟩
    rcases h1.2 with ⟨hv, _⟩ | ⟨g', cap, cur, hv, _, hg, _⟩
    · rw [hv] at hb; simp [ablk] at hb
    · rw [hv] at hb; simp [ablk] at hb; subst hb
      exact (Array.getElem?_eq_some_iff.1 hg).1
  | ice e xs => simp [Obj.mut] at hm
  | map a b' l =>
    obtain ⟨blk, es, clock, h1, h2, _, h5⟩ := ho
    rw [h1] at hb; simp [ablk] at hb; subst hb
    exact ⟨(Array.getElem?_eq_some_iff.1 h2).1, h5⟩
  | raw te e xs =>
    obtain ⟨_, ⟨h1, _⟩ | ⟨blk, n, cur, h1, h2, _, _, _, _, h5⟩⟩ := ho
    · rw [h1] at hb; simp [ablk] at hb
    · rw [h1] at hb; simp [ablk] at hb; subst hb
      exact ⟨(Array.getElem?_eq_some_iff.1 h2).1, h5⟩

/-- A thing stands on while its block, and what is frozen, stays. -/
theorem RO_mono {id : Nat} {o : Obj} (hU : g.U id) (ho : RO C w g id o) (e : Evo w g w' g')
    (hb : ∀ b, o.mut = true → ablk (g.anch id) = some b → w'.heap[b]? = w.heap[b]? ∧ ¬ g'.F b) : RO C w' g' id o := by
  have ha := (e.A id hU).2
  cases o with
  | box cs =>
    obtain ⟨blk, vs, te, h1, h2, h3, h4, h5⟩ := ho
    have hbl := hb blk rfl (by rw [h1]; rfl)
    exact ⟨blk, vs, te, by rw [ha]; exact h1, hbl.1.trans h2, RVs_mono e _ _ h3, h4, h5.1, hbl.2⟩
  | arr te et xs =>
    obtain ⟨cells, h1, h2, h3, h4⟩ := ho
    refine ⟨cells, ?_, reps_mono e.F _ _ _ h2, h3, fun b hbb => ?_⟩
    · rw [ha]
      refine ⟨h1.1, ?_⟩
      rcases h1.2 with hn | ⟨g', cap, cur, hv, hb0, hg, rest⟩
      · exact .inl hn
      · exact .inr ⟨g', cap, cur, hv, hb0, ((hb g' rfl (by rw [hv]; rfl)).1).trans hg, rest⟩
    · rw [ha] at hbb
      exact ⟨(h4 b hbb).1, (hb b rfl hbb).2⟩
  | ice et xs =>
    simp only [RO] at ho ⊢
    rw [ha]
    exact rep_mono e.F _ _ _ ho
  | map a b' l =>
    obtain ⟨blk, es, clock, h1, h2, h3, h5⟩ := ho
    have hbl := hb blk rfl (by rw [h1]; rfl)
    exact ⟨blk, es, clock, by rw [ha]; exact h1, hbl.1.trans h2, mapRep_mono e.F h3, h5.1, hbl.2⟩
  | raw te et xs =>
    obtain ⟨h0, ⟨h1, h2⟩ | ⟨blk, n, cur, h1, h2, h3, h4, h6, h7, h5⟩⟩ := ho
    · exact ⟨h0, .inl ⟨by rw [ha]; exact h1, h2⟩⟩
    · have hbl := hb blk rfl (by rw [h1]; rfl)
      exact ⟨h0, .inr ⟨blk, n, cur, by rw [ha]; exact h1, hbl.1.trans h2, h3, h4, h6, rawRep_mono e.F h7, h5.1, hbl.2⟩⟩

theorem RelH.quiet (R : RelH C h w g) (q : QRes C w g fresh v news x w' g') : RelH C (news ++ h) w' g' := by
  have e := q.evo R.F
  have old : ∀ id o, lookN news id = none → lookN h id = some o → g'.U id ∧ RO C w' g' id o := fun id o _ ho => by
    obtain ⟨hU, hO⟩ := R.obj id o ho
    refine ⟨(q.A id hU).1, RO_mono hU hO e fun b hm hb => ?_⟩
    obtain ⟨hlt, hmo⟩ := RO_block hO hm hb
    refine ⟨q.below.block b hlt, fun hF => ?_⟩
    rcases q.Fnew b hF with h1 | h1
    · exact hmo.2 h1
    · omega
  have split : ∀ id o, lookN (news ++ h) id = some o → lookN news id = some o ∨ (lookN news id = none ∧ lookN h id = some o) := fun id o ho => by
    rw [lookN_append] at ho
    cases hn : lookN news id with
    | none => rw [hn] at ho; simp at ho; exact .inr ⟨rfl, ho⟩
    | some o' => rw [hn] at ho; simp at ho; subst ho; exact .inl rfl
  have oldblk : ∀ id o b, lookN h id = some o → o.mut = true → ablk (g'.anch id) = some b → b < w.heap.size ∧ ablk (g.anch id) = some b := fun id o b ho hm hb => by
    obtain ⟨hU, hO⟩ := R.obj id o ho
    rw [(q.A id hU).2] at hb
    exact ⟨(RO_block hO hm hb).1, hb⟩
  refine ⟨fun b hb => ?_, Nat.le_trans R.size q.below.size, q.below.os.trans R.os, q.below.tape.trans R.tape, q.below.output.trans R.output, fun b hb => ?_, fun b hb => (q.Fnew b hb).elim (R.Fin b) (fun h1 => .inr (.inr (Nat.le_trans R.size h1.1))), e.pin R.pin, R.lam, fun id o ho => ?_, ?_⟩
  · have : b < w.heap.size := Nat.lt_of_lt_of_le hb.1 R.size
    exact (q.below.block b this).trans (R.keep b hb)
  · rcases q.Fnew b hb with h1 | h1
    · exact Nat.lt_of_lt_of_le (R.F b h1) q.below.size
    · exact h1.2
  · rcases split id o ho with hn | ⟨hn, ho⟩
    · exact ⟨(q.neu id o hn).2.1, (q.neu id o hn).2.2.1⟩
    · exact old id o hn ho
  · intro id o id' o' b ho ho' hm hm' hb hb'
    rcases split id o ho with hn | ⟨hn, ho⟩ <;> rcases split id' o' ho' with hn' | ⟨hn', ho'⟩
    · exact q.sep id o id' o' b hn hn' hm hm' hb hb'
    · have h1 := (q.neu id o hn).2.2.2 b hb
      have h2 := (oldblk id' o' b ho' hm' hb').1
      omega
    · have h1 := (q.neu id' o' hn').2.2.2 b hb'
      have h2 := (oldblk id o b ho hm hb).1
      omega
    · exact R.sep id o id' o' b ho ho' hm hm' (oldblk id o b ho hm hb).2 (oldblk id' o' b ho' hm' hb').2

theorem RelE.mono {env : Env} {tmps : Array Value} (R : RelE C env tmps w g) (e : Evo w g w' g') : RelE C env tmps w' g' :=
  fun t v h => let ⟨x, h1, h2⟩ := R t v h; ⟨x, h1, RV_mono e v x h2⟩
def putEnv (env : Env) (dst : Option Tmp) (v : V) : Env :=
  match dst with
  | some d => (d, v) :: env
  | none => env
theorem RelE.put {env : Env} {a : Act} (R : RelE C env a.tmps w g) {dst : Option Tmp} {v : V} {x : Value} (hv : RV C w g v x) (hd : ∀ d, dst = some d → d < a.tmps.size) :
    RelE C (putEnv env dst v) (a.put dst x).tmps w g := by
  cases dst with
  | none => exact R
  | some d =>
    intro t u ht
    simp only [putEnv, lookN] at ht
    simp only [Act.put]
    cases hb : Nat.beq d t
    · simp only [hb] at ht
      obtain ⟨y, h1, h2⟩ := R t u ht
      refine ⟨y, ?_, h2⟩
      have hne : d ≠ t := fun e => by subst e; simp at hb
      rw [Array.getElem?_setIfInBounds_ne hne]
      exact h1
    · simp only [hb, Option.some.injEq] at ht
      subst ht
      have : d = t := Nat.eq_of_beq_eq_true hb
      subst this
      exact ⟨x, by rw [Array.getElem?_setIfInBounds_self_of_lt (hd d rfl)], hv⟩

/-! ## Operands -/
theorem constV_rel (x : Value) : RV C w g (constV x) x := by
  unfold constV
  split
  · simp [RV]
  · rename_i k n
    cases hk : inK k n
    · simp [RV]
    · have := (inK_iff k n).1 hk
      simp [RV, this.1, this.2]
  · rename_i l
    cases hl : Nat.ble l.length 100000
    · simp [RV]
    · have := Nat.le_of_ble_eq_true hl
      simp only [RV, true_and]
      simp only [maxLen]; omega
  · simp [RV]
  · simp [RV]
  · simp [RV]
  · simp [RV]
  · simp [RV]
theorem rd_rel {env : Env} {a : Act} (R : RelE C env a.tmps w g) (x : Operand) : RV C w g (rd env x) (a.eval x) := by
  cases x with
  | tmp t =>
    simp only [rd, Act.eval]
    cases hl : lookN env t with
    | none => simp [RV]
    | some v =>
      obtain ⟨y, h1, h2⟩ := R t v hl
      have : a.tmps.getD t undef = y := by simp [Array.getD_eq_getD_getElem?, h1]
      rw [this]
      exact h2
  | const c => exact constV_rel c
  | global n => simp [rd, RV]
  | func f => simp only [rd, RV]; exact ⟨[], rfl, by simp [RVs]⟩
theorem rds_rel {env : Env} {a : Act} (R : RelE C env a.tmps w g) : ∀ (xs : List Operand), RVs C w g (xs.map (rd env)) (xs.map a.eval)
  | [] => by simp [RVs]
  | x :: xs => by simp only [List.map_cons, RVs]; exact ⟨_, _, rfl, rd_rel R x, rds_rel R xs⟩

/-! ## Types -/
theorem ti_of {P : Program} {T : Tab} (hT : TabOk P T) {t : TypeId} {i : TI} (hi : T.ti t = some i) :
    ∃ inf u z, P.info? t = some inf ∧ P.underlying t = some u ∧ inf.zero = some z ∧ tdOf u = i.d ∧ inf.size = i.size ∧ inf.bytes = i.bytes ∧ z.cells.toList.map zcOf = i.zero ∧ rowOf P 8 t = i.row ∧ eqOf P t u = i.eq := by
  have h := hT t i hi
  unfold tiOf at h
  split at h
  · rename_i inf u h1 h2
    split at h
    · rename_i z hz
      simp only [Option.some.injEq] at h
      subst h
      exact ⟨inf, u, z, h1, h2, hz, rfl, rfl, rfl, rfl, rfl, rfl⟩
    · simp at h
  · simp at h
theorem und_slice {u : TypeDesc} {e : TypeId} (h : tdOf u = .slice e) : u = .slice e := by
  cases u <;> simp [tdOf] at h; subst h; rfl
theorem und_str {u : TypeDesc} (h : tdOf u = .str) : u = .string := by
  cases u <;> simp [tdOf] at h; rfl
theorem und_int {u : TypeDesc} {k : IntKind} (h : tdOf u = .int k) : u = .int k := by
  cases u <;> simp [tdOf] at h; subst h; rfl
theorem und_ptr {u : TypeDesc} {e : TypeId} (h : tdOf u = .ptr e) : u = .pointer e := by
  cases u <;> simp [tdOf] at h; subst h; rfl
theorem und_bool {u : TypeDesc} (h : tdOf u = .bool) : u = .bool := by
  cases u <;> simp [tdOf] at h; rfl
theorem und_arr {u : TypeDesc} {n : Nat} {e : TypeId} (h : tdOf u = .arr n e) : u = .array n e := by
  cases u <;> simp [tdOf] at h; obtain ⟨rfl, rfl⟩ := h; rfl
theorem und_struct {u : TypeDesc} {fs : List (TypeId × Nat)} (h : tdOf u = .struct fs) : ∃ gs : Array Field, u = .struct gs ∧ gs.toList.map (fun f => (f.type, f.offset)) = fs := by
  cases u <;> simp [tdOf] at h; exact ⟨_, rfl, h⟩
theorem run_isAgg {P : Program} {t : TypeId} {u : TypeDesc} (hu : P.underlying t = some u) (w : World) : (isAgg t).run P w = .ok (isAggD (tdOf u)) w := by
  unfold isAgg
  cases u <;> simp [run_underlying hu, tdOf, isAggD]

/-! ## Loads -/
theorem run_loadVar_cells {P : Program} {T : Tab} (hT : TabOk P T) {t : TypeId} {i : TI} (hi : T.ti t = some i) {a0 : Addr} {cs : List V} {vs : List Value}
    (hv : RVs C w g cs vs) (hc : ∀ (j : Nat) (x : Value), vs[j]? = some x → w.cell? (a0.add j) = some x) (hl : cs.length = i.size) {v : V} (hm : mkV i.d cs = some v) :
    ∃ val, (loadVar t a0).run P w = .ok val w ∧ RV C w g v val := by
  obtain ⟨inf, u, z, h1, h2, _, h4, h5, _⟩ := ti_of hT hi
  have hvl : vs.length = i.size := (RVs_len hv).trans hl
  unfold mkV at hm
  cases ha : isAggD i.d
  · simp only [ha] at hm
    split at hm
    · rename_i c
      simp only [Option.some.injEq] at hm
      subst hm
      simp only [RVs] at hv
      obtain ⟨y, _, rfl, hy, rfl⟩ := hv
      refine ⟨y, ?_, hy⟩
      have h0 := hc 0 y rfl
      have hadd : a0.add 0 = a0 := by simp [Addr.add]
      rw [hadd] at h0
      simp [loadVar, run_isAgg h2, h4, ha, h0]
    · simp at hm
  · simp only [ha, Option.some.injEq] at hm
    subst hm
    refine ⟨.agg vs.toArray, ?_, by simp only [RV]; exact ⟨vs, rfl, hv⟩⟩
    have hr := run_loadCells_list (P := P) w a0 vs hc
    rw [hvl] at hr
    simp [loadVar, run_isAgg h2, h4, ha, sizeOf, typeInfo, h1, h5, hr]

theorem addr_add (b o n : Nat) : (⟨b, o, none⟩ : Addr).add n = ⟨b, o + n, none⟩ := by unfold Addr.add; split <;> simp_all

theorem mkR_some {c c' : List Prop} {d : TD} {cs : List V} {v : V} {news : Heap} (h : mkR c d cs = some (c', v, news)) : mkV d cs = some v ∧ c' = c ∧ news = [] := by
  unfold mkR at h
  split at h
  · rename_i v' hv
    simp only [Option.some.injEq, Prod.mk.injEq] at h
    obtain ⟨rfl, rfl, rfl⟩ := h
    exact ⟨hv, rfl, rfl⟩
  · simp at h

/-- The cells of one's own slice. -/
theorem arr_cells {id : Nat} {te : TypeId} {e : Ty} {xs : List e.den} (ho : RO C w g id (.arr te e xs)) :
    ∃ cells, reps w g.F e xs cells ∧ cells.length = xs.length * e.cells ∧ ∀ a n c, g.anch id = .slice (some a) n c → ∀ (j : Nat) (x : Value), cells[j]? = some x → w.cell? (a.add j) = some x := by
  obtain ⟨cells, h1, h2, _, _⟩ := ho
  refine ⟨cells, h2, h1.1, fun a n c ha j x hx => ?_⟩
  have hb : (g.anch id).ownBlock = some a.block := by rw [ha]; rfl
  have := h1.cells hb j x hx
  rcases h1.2 with ⟨hv, _⟩ | ⟨g', cap, cur, hv, _⟩
  · rw [ha] at hv; simp at hv
  · rw [ha] at hv; simp at hv
    obtain ⟨rfl, _, _⟩ := hv
    exact this

theorem getD_get {α : Type} (xs : List α) (i : Nat) (d : α) (h : i < xs.length) : xs.getD i d = xs[i] := by
  simp [List.getD, List.getElem?_eq_getElem h]

theorem loadV_sound {P : Program} {T : Tab} (hT : TabOk P T) (R : RelH C h w g) {t : TypeId} {a v : V} {x : Value} {c : List Prop} {news : Heap}
    (hs : loadV T t a h = some (c, v, news)) (hc : ∀ p ∈ c, p) (ha : RV C w g a x) :
    news = [] ∧ ∃ val, (Instr.loadAt t x).run P w = .ok val w ∧ RV C w g v val := by
  unfold loadV at hs
  cases hi : T.ti t with
  | none => simp [hi] at hs
  | some i =>
    simp only [hi] at hs
    cases a <;> simp only at hs
    all_goals try (simp at hs; done)
    case ptr id col =>
      simp only [RV] at ha
      obtain ⟨hU, ad, h1, rfl⟩ := ha
      cases ho : lookN h id with
      | none => simp [ho] at hs
      | some o =>
        cases o <;> simp only [ho] at hs
        all_goals try (simp at hs; done)
        rename_i cs
        obtain ⟨_, blk, vs, te, h2, h3, h4, _, _⟩ := R.obj id _ ho
        rw [h1] at h2
        simp at h2
        subst h2
        cases hb : Nat.ble (col + i.size) cs.length
        · simp [hb] at hs
        · simp only [hb] at hs
          have hle := Nat.le_of_ble_eq_true hb
          obtain ⟨hm, rfl, rfl⟩ := mkR_some hs
          refine ⟨rfl, ?_⟩
          have hvs := RVs_take i.size (RVs_drop col h4)
          obtain ⟨val, hr, hv⟩ := run_loadVar_cells hT hi (a0 := (⟨blk, 0, none⟩ : Addr).add col) hvs (fun j y hy => by
            rw [add_add, addr_add]
            rw [cell_of_row w blk _ _ _ _ h3]
            have hj : j < i.size := by
              have hlt := (List.getElem?_eq_some_iff.1 hy).1
              simp at hlt; omega
            rw [List.getElem?_take_of_lt hj, List.getElem?_drop] at hy
            simpa using hy) (by simp; omega) hm
          exact ⟨val, by simp [Instr.loadAt, Instr.sureAddr, hr], hv⟩
    case rp cs =>
      simp only [RV] at ha
      obtain ⟨ad, vs, rfl, hF, hcell, h4⟩ := ha
      cases hb : Nat.ble i.size cs.length
      · simp [hb] at hs
      · simp only [hb] at hs
        have hle := Nat.le_of_ble_eq_true hb
        obtain ⟨hm, rfl, rfl⟩ := mkR_some hs
        refine ⟨rfl, ?_⟩
        obtain ⟨val, hr, hv⟩ := run_loadVar_cells hT hi (a0 := ad) (RVs_take i.size h4) (fun j y hy => by
          have hj : j < i.size := by
            have hlt := (List.getElem?_eq_some_iff.1 hy).1
            simp at hlt; omega
          rw [List.getElem?_take_of_lt hj] at hy
          exact hcell j y hy) (by simp; omega) hm
        exact ⟨val, by simp [Instr.loadAt, Instr.sureAddr, hr], hv⟩
    case ep id e row col =>
      simp only [RV] at ha
      obtain ⟨hU, ad, n, cp, h1, rfl⟩ := ha
      cases ho : lookN h id with
      | none => simp [ho] at hs
      | some o =>
        cases o <;> simp only [ho] at hs
        all_goals try (simp at hs; done)
        rename_i te e' xs'
        cases hcast : castL e' e xs' with
        | none => simp [hcast] at hs
        | some xs =>
          simp only [hcast] at hs
          obtain ⟨rfl, hxs⟩ := castL_eq hcast
          simp at hxs
          subst hxs
          cases hb : Nat.ble (col + i.size) e'.cells
          · simp [hb] at hs
          · simp only [hb] at hs
            have hle := Nat.le_of_ble_eq_true hb
            obtain ⟨hm, rfl, rfl⟩ := mkR_some hs
            have hrow : row < xs'.length := hc _ (by simp)
            refine ⟨rfl, ?_⟩
            obtain ⟨cells, hreps, hlen, hcell⟩ := arr_cells (R.obj id _ ho).2
            obtain ⟨ci, hrep, htk⟩ := reps_at e' xs' cells hreps row hrow
            rw [getD_get _ _ _ hrow] at hm
            have hvs := RVs_take i.size (RVs_drop col (RVs_ofDen (C := C) e' _ ci hrep))
            obtain ⟨val, hr, hv⟩ := run_loadVar_cells hT hi (a0 := ad.add (row * e'.cells + col)) hvs (fun j y hy => by
              have hj : j < i.size := by
                have hlt := (List.getElem?_eq_some_iff.1 hy).1
                simp at hlt; omega
              rw [List.getElem?_take_of_lt hj, List.getElem?_drop, ← htk, List.getElem?_take_of_lt (by omega), List.getElem?_drop] at hy
              rw [add_add]
              refine hcell ad n cp h1 _ y ?_
              rw [← hy]
              congr 1
              omega) (by simp [ofDen_len]; omega) hm
            exact ⟨val, by simp [Instr.loadAt, Instr.sureAddr, hr], hv⟩
end
end Go.Eng
