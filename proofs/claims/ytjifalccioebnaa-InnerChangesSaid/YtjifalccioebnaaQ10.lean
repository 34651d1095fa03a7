import Derived.Test.YtjifalccioebnaaQ9
import Derived.WalkKit
import Derived.WalkSpells
import Derived.StillTactics
import Derived.OwnWalk
import Derived.Deep.RegionLaw
import Derived.Lib.SmallJoins
import Derived.Laws.Pointers
/- Texts, one behind the other. -/
set_option linter.unusedVariables false
set_option linter.unusedSimpArgs false
set_option maxRecDepth 100000
set_option pp.maxSteps 900
set_option pp.deepTerms false
set_option maxHeartbeats 4000000
namespace Go.Proofs.Ytjifalccioebnaa
open Go.Proofs Go.RowKit Go.Shelf Go.Lib Go.Eng
attribute [local go_sem ↓] Go.wp_at_zero Go.wp_at_succ
theorem info9 : (Try.prog.info? 9).map (fun i => (i.zero, i.size, i.bytes)) = some (some (.string ⟨⟨[]⟩⟩), 1, 16) := by kernel_rfl
theorem info3 : (Try.prog.info? 3).map (fun i => (i.zero, i.size, i.bytes)) = some (some (.int .i64 0), 1, 8) := by kernel_rfl
theorem info32 : (Try.prog.info? 32).map (fun i => (i.zero, i.size, i.bytes)) = some (some (.slice none 0 0), 1, 24) := by kernel_rfl
theorem info28 : (Try.prog.info? 28).map (fun i => (i.zero, i.size, i.bytes)) = some (some (.agg #[.int .u8 0, .string ⟨⟨[]⟩⟩, .int .i64 0, .int .i64 0, .bool false, .string ⟨⟨[]⟩⟩]), 6, 64) := by kernel_rfl
theorem ownsRow_kept_low {w : World} {base B : Nat} {te : TypeId} {size n : Nat} {v : Value} {xs : List Value} (h : w.ownsRow base te size v n xs) (hB : ∀ k, v.ownBlock = some k → B ≤ k ∧ k < w.heap.size) {a : Addr} (ha : a.block < B) {u : Value} : (w.setCell a u).ownsRow base te size v n xs := by
  refine h.kept (row := some a.block) ⟨rfl, rfl, rfl, by simp, fun k _ hk => Below.heap_setCell _ _ _ _ (fun hh => hk (by rw [hh]))⟩ ?_
  cases hv : v.ownBlock with
  | none => exact .inl rfl
  | some k =>
    refine .inr fun hh => ?_
    have := (hB k hv).1
    simp at hh
    omega
structure Copied (w w' : World) (pv kv bv : Value) (ps : List (List UInt8)) (ks : List Int) (bs : List (List Msg)) (B : Nat) (rv : List Value) : Prop where
  below : Below w.heap.size w w'
  lo : w.heap.size ≤ B
  hi : B ≤ w'.heap.size
  p : ∃ c, w'.ownsRow w.heap.size 9 1 pv ps.length c ∧ reps w' (fun _ => False) .str ps c ∧ ∀ k, pv.ownBlock = some k → k < B
  k : ∃ c, w'.ownsRow w.heap.size 3 1 kv ks.length c ∧ reps w' (fun _ => False) (.int .i64) ks c ∧ ∀ k, kv.ownBlock = some k → k < B
  b : Nest w' B 32 28 MsgT bv rv bs
  pk : ∀ k, pv.ownBlock = some k → kv.ownBlock ≠ some k
theorem box3 {w : World} {k : Nat} {a b c : Value} {t : TypeId} (h : w.heap[k]? = some (.cells #[a, b, c] t (0, 0))) :
    w.cell? ⟨k, 0, none⟩ = some a ∧ w.cell? ⟨k, 1, none⟩ = some b ∧ w.cell? ⟨k, 2, none⟩ = some c ∧ w.frozen? ⟨k, 0, none⟩ = false ∧ w.frozen? ⟨k, 1, none⟩ = false ∧ w.frozen? ⟨k, 2, none⟩ = false := by
  refine ⟨?_, ?_, ?_, ?_, ?_, ?_⟩ <;> simp [World.cell?, World.frozen?, h]
theorem box3_set {w : World} {k : Nat} {a b c : Value} {t : TypeId} (h : w.heap[k]? = some (.cells #[a, b, c] t (0, 0))) (v : Value) :
    (w.setCell ⟨k, 0, none⟩ v).heap[k]? = some (.cells #[v, b, c] t (0, 0)) ∧ (w.setCell ⟨k, 1, none⟩ v).heap[k]? = some (.cells #[a, v, c] t (0, 0)) ∧ (w.setCell ⟨k, 2, none⟩ v).heap[k]? = some (.cells #[a, b, v] t (0, 0)) :=
  ⟨Go.Joins.block_setCell (i := 0) h v, Go.Joins.block_setCell (i := 1) h v, Go.Joins.block_setCell (i := 2) h v⟩
theorem heap3 (w : World) (o1 o2 o3 : Go.Obj) : (((w.alloc o1).alloc o2).alloc o3).heap[w.heap.size]? = some o1 ∧ (((w.alloc o1).alloc o2).alloc o3).heap[w.heap.size + 1]? = some o2 ∧ (((w.alloc o1).alloc o2).alloc o3).heap[w.heap.size + 1 + 1]? = some o3 := by
  refine ⟨?_, ?_, ?_⟩
  · rw [Below.heap_alloc _ _ _ (by simp <;> omega), Below.heap_alloc _ _ _ (by simp), Go.heap_alloc_new]
  · rw [Below.heap_alloc _ _ _ (by simp)]
    have := Go.heap_alloc_new (w.alloc o1) o2
    simpa using this
  · have := Go.heap_alloc_new ((w.alloc o1).alloc o2) o3
    simpa using this
theorem grown_cells {w : World} {k : Nat} {a b c : Value} {t : TypeId} (h : w.heap[k]? = some (.cells #[a, b, c] t (0, 0))) (x y z : Value) :
    (((w.setCell ⟨k, 0, none⟩ x).setCell ⟨k, 1, none⟩ y).setCell ⟨k, 2, none⟩ z).heap[k]? = some (.cells #[x, y, z] t (0, 0)) :=
  (box3_set (box3_set (box3_set h x).1 y).2.1 z).2.2
theorem results_one {P : Program} {w : World} {fn : Func} {p : Tmp} {ty : TypeId} (h : fn.results = #[.cell p ty]) (tmps : Array Value) :
    (results fn tmps).run P w = ((asAddr (tmps.getD p undef)).run P w).andThen fun a w₁ => (loadVar ty a).run P w₁ := by
  simp [results, h, Sem.run_bind]
structure CInv (w : World) (pv kv bv : Value) (ps : List (List UInt8)) (ks : List Int) (np nk : List Value) (B : Nat) (V1 V2 : Value) (wr : World) (bv' : Value) (rv : List Value) (R : List (List Msg)) : Prop where
  below : Below w.heap.size w wr
  n : wr.heap[w.heap.size]? = some (.cells #[pv, kv, bv] 26 (0, 0))
  r : wr.heap[w.heap.size + 1]? = some (.cells #[.slice none 0 0, .slice none 0 0, .slice none 0 0] 26 (0, 0))
  x : wr.heap[w.heap.size + 1 + 1]? = some (.cells #[V1, V2, bv'] 26 (0, 0))
  p : wr.ownsRow w.heap.size 9 1 V1 ps.length np
  k : wr.ownsRow w.heap.size 3 1 V2 ks.length nk
  pf : ∀ k, V1.ownBlock = some k → w.heap.size + 1 + 1 + 1 ≤ k ∧ k < B
  kf : ∀ k, V2.ownBlock = some k → w.heap.size + 1 + 1 + 1 ≤ k ∧ k < B
  lo : w.heap.size + 1 + 1 + 1 ≤ B
  hi : B ≤ wr.heap.size
  pk : ∀ k, V1.ownBlock = some k → V2.ownBlock ≠ some k
  b : Nest wr B 32 28 MsgT bv' rv R
theorem CInv.grown {w : World} {pv kv bv : Value} {ps : List (List UInt8)} {ks : List Int} {np nk : List Value} {B : Nat} {V1 V2 : Value} {wr w1 : World} {bv' : Value} {rv : List Value} {R : List (List Msg)}
    (h : CInv w pv kv bv ps ks np nk B V1 V2 wr bv' rv R) (hg : wr.grownBy w1 none) : CInv w pv kv bv ps ks np nk B V1 V2 w1 bv' rv R where
  below := h.below.grown hg (by have := h.lo; have := h.hi; omega) (by simp)
  n := (hg.block _ (by have := h.lo; have := h.hi; omega) (by simp)).trans h.n
  r := (hg.block _ (by have := h.lo; have := h.hi; omega) (by simp)).trans h.r
  x := (hg.block _ (by have := h.lo; have := h.hi; omega) (by simp)).trans h.x
  p := h.p.kept hg (by cases hv : V1.ownBlock <;> simp)
  k := h.k.kept hg (by cases hv : V2.ownBlock <;> simp)
  pf := h.pf
  kf := h.kf
  lo := h.lo
  hi := Nat.le_trans h.hi hg.size
  pk := h.pk
  b := h.b.low (by rfl) hg (by simp)
theorem CInv.step {w : World} {pv kv bv : Value} {ps : List (List UInt8)} {ks : List Int} {np nk : List Value} {B : Nat} {V1 V2 : Value} {wr w1 w2 w3 : World} {bv' v' r : Value} {rv cells : List Value} {R : List (List Msg)} {c : List Msg}
    (h : CInv w pv kv bv ps ks np nk B V1 V2 wr bv' rv R) (hg1 : wr.grownBy w1 none) (hr : w1.ownsRow B 28 MsgT.cells r c.length cells) (hc : reps w1 (fun _ => False) MsgT c cells) (hat1 : r.ownBlock = none ∨ r.ownBlock = some wr.heap.size)
    (hg2 : w1.grownBy w2 none) (hg3 : w2.grownBy w3 bv'.ownBlock) (hown : w3.ownsRow B 32 1 v' (rv.length + 1) (rv ++ [r])) (hat : v'.ownBlock = bv'.ownBlock ∨ v'.ownBlock = some w2.heap.size) :
    CInv w pv kv bv ps ks np nk B V1 V2 (w3.setCell ⟨w.heap.size + 1 + 1, 2, none⟩ v') v' (rv ++ [r]) (R ++ [c]) := by
  have h2 := (h.grown hg1).grown hg2
  have hlo := h2.lo
  have hhi := h2.hi
  have hrlt : ∀ k, r.ownBlock = some k → k = wr.heap.size := fun k hk => by
    rcases hat1 with h1 | h1 <;> rw [h1] at hk <;> simp at hk
    exact hk.symm
  have htop := h.b.top.lt
  have hrow : ∀ k, bv'.ownBlock = some k → B ≤ k := fun k hk => (htop k hk).1
  have gs : ∀ k, k ≠ w.heap.size + 1 + 1 → (w3.setCell ⟨w.heap.size + 1 + 1, 2, none⟩ v').heap[k]? = w3.heap[k]? := fun k hk => Below.heap_setCell _ _ _ _ hk
  have low : ∀ k, k < B → w3.heap[k]? = w2.heap[k]? := fun k hk => hg3.block k (by omega) (fun hh => by have := hrow k hh.symm; omega)
  have p3 := (h2.p.kept hg3 (by
    cases hv : V1.ownBlock with
    | none => exact .inl rfl
    | some k => exact .inr fun hh => by have := (h.pf k hv).2; have := hrow k hh.symm; omega))
  have k3 := (h2.k.kept hg3 (by
    cases hv : V2.ownBlock with
    | none => exact .inl rfl
    | some k => exact .inr fun hh => by have := (h.kf k hv).2; have := hrow k hh.symm; omega))
  have s3 := hg3.size
  have nst : Nest w3 B 32 28 MsgT v' (rv ++ [r]) (R ++ [c]) := h2.b.push (by rfl) (hr.kept hg2 (by cases hv : r.ownBlock <;> simp)) (reps_flat MsgT (by rfl) _ _ hc) (fun k hk => by
    have := hrlt k hk
    subst this
    exact ⟨fun hh => by have := (htop _ hh).2; omega, fun i s hi hh => by have := (h.b.blk hi hh).2; omega⟩) hown hg3 hat
  exact {
    below := (h2.below.grown hg3 (by omega) (fun k hk => by have := hrow k hk; omega)).setCell (by simp <;> omega) _
    n := ((gs _ (by omega)).trans (low _ (by omega))).trans h2.n
    r := ((gs _ (by omega)).trans (low _ (by omega))).trans h2.r
    x := (box3_set ((low _ (by omega)).trans h2.x) v').2.2
    p := ownsRow_kept_low p3 (fun k hk => ⟨(h.pf k hk).1, (p3.lt k hk).2⟩) (by simp)
    k := ownsRow_kept_low k3 (fun k hk => ⟨(h.kf k hk).1, (k3.lt k hk).2⟩) (by simp)
    pf := h.pf
    kf := h.kf
    lo := h.lo
    hi := by simp; omega
    pk := h.pk
    b := nst.low (by rfl) (row := some (w.heap.size + 1 + 1)) ⟨rfl, rfl, rfl, by simp, fun k _ hk => gs k (fun hh => hk (by rw [hh]))⟩ (fun k hk => by simp at hk; omega) }
theorem view_row {w : World} {F : Nat → Prop} (hF : ∀ b, F b → b < w.heap.size) {e : Ty} {xs : List (List e.den)} {x : Value} {ab : Addr} {cap : Nat} {cells : List Value} (q : View w F (.slice e) xs x (some ab) cap cells) {m : Nat} (hm : m < xs.length) :
    ∃ row A c cs, w.cell? (ab.add m) = some row ∧ View w F e (xs[m]) row A c cs := by
  obtain ⟨c, h1, h2⟩ := reps_at (.slice e) xs cells q.rows m hm
  have hl := rep_len _ _ _ h1
  obtain ⟨x, rfl⟩ : ∃ x, c = [x] := by
    match c, hl with
    | [x], _ => exact ⟨x, rfl⟩
  obtain ⟨A, c, cs, q1, _⟩ := view_of_rep (g := Gh.at F) hF h1
  refine ⟨x, A, c, cs, q.cell ab rfl m x ?_, q1⟩
  have : ((cells.drop (m * Ty.cells (.slice e))).take (Ty.cells (.slice e)))[0]? = some x := by rw [h2]; rfl
  rw [List.getElem?_take_of_lt (show 0 < Ty.cells (.slice e) from Nat.zero_lt_one), List.getElem?_drop] at this
  simpa [Ty.cells] using this
theorem CInv.result {w : World} {pv kv bv : Value} {ps : List (List UInt8)} {ks : List Int} {np nk : List Value} {B : Nat} {V1 V2 : Value} {wr w' : World} {bv' : Value} {rv : List Value} {R : List (List Msg)}
    (h : CInv w pv kv bv ps ks np nk B V1 V2 wr bv' rv R) (hg : wr.grownBy w' (some (w.heap.size + 1))) (hp : reps w (fun _ => False) .str ps np) (hk : reps w (fun _ => False) (.int .i64) ks nk) : Copied w w' V1 V2 bv' ps ks R B rv := by
  have hlo := h.lo
  have hhi := h.hi
  exact {
    below := h.below.grown hg (by omega) (fun k hk => by simp at hk; omega)
    lo := by omega
    hi := by have := hg.size; omega
    p := ⟨np, h.p.kept hg (by
      cases hv : V1.ownBlock with
      | none => exact .inl rfl
      | some k => exact .inr fun hh => by have := (h.pf k hv).1; simp at hh; omega), reps_flat _ (by rfl) _ _ hp, fun k hk => (h.pf k hk).2⟩
    k := ⟨nk, h.k.kept hg (by
      cases hv : V2.ownBlock with
      | none => exact .inl rfl
      | some k => exact .inr fun hh => by have := (h.kf k hv).1; simp at hh; omega), reps_flat _ (by rfl) _ _ hk, fun k hk => (h.kf k hk).2⟩
    b := h.b.low (by rfl) hg (fun k hk => by simp at hk; omega)
    pk := h.pk }
theorem grown_set3 (w : World) (k : Nat) (a b c : Value) : w.grownBy (((w.setCell ⟨k, 0, none⟩ a).setCell ⟨k, 1, none⟩ b).setCell ⟨k, 2, none⟩ c) (some k) := by
  refine ⟨rfl, rfl, rfl, by simp, fun j _ hj => ?_⟩
  have hne : j ≠ k := fun h => hj (by rw [h])
  rw [Below.heap_setCell _ _ _ _ hne, Below.heap_setCell _ _ _ _ hne, Below.heap_setCell _ _ _ _ hne]
theorem copied_w (w : World) (F : Nat → Prop) (hF : ∀ b, F b → b < w.heap.size) (pv kv bv : Value) (ps : List (List UInt8)) (ks : List Int) (bs : List (List Msg)) (hp : IPre (ps, ks, bs))
    (h1 : rep w F (.slice .str) ps [pv]) (h2 : rep w F (.slice (.int .i64)) ks [kv]) (h3 : rep w F (.slice (.slice MsgT)) bs [bv]) :
    Calls Try.prog 32 #[.agg #[pv, kv, bv]] w fun e w' => ∃ pv' kv' bv' B rv, e = .returned (.agg #[pv', kv', bv']) ∧ Copied w w' pv' kv' bv' ps ks bs B rv := by
  obtain ⟨i9, hi9, z9, s9, b9⟩ := info_parts info9
  obtain ⟨i3, hi3, z3, s3, b3⟩ := info_parts info3
  obtain ⟨i32, hi32, z32, s32, b32⟩ := info_parts info32
  obtain ⟨i28, hi28, z28, s28, b28⟩ := info_parts info28
  obtain ⟨Ap, cp, np, qp, -⟩ := view_of_rep (g := Gh.at F) hF h1
  obtain ⟨Ak, ck, nk, qk, -⟩ := view_of_rep (g := Gh.at F) hF h2
  obtain ⟨Ab, cb, nb, qb, -⟩ := view_of_rep (g := Gh.at F) hF h3
  obtain rfl := qp.val
  obtain rfl := qk.val
  obtain rfl := qb.val
  have hps := hp.p
  have hks := hp.k
  have hbs := hp.b
  dsimp only at hps hks hbs
  go_enter Try.func32, Try.ntmps32
  go_wp2_with (at_builtin; first
    | ((refine wpList_append_view (e := .str) rfl _ _ 22 rfl (by kernel_rfl) hi9 z9 s9 b9 rfl (by decide) (by rfl) (by rfl) (World.ownsRow_nil _ w.heap.size _ _) (view_below (F' := F) rfl qp ((((Below.refl _ _).alloc (by simp) _).alloc (by simp) _).alloc (by simp <;> omega) _)) (by omega) (by unfold maxLen; omega) (by simp <;> omega) ?_)
       intro v1 w1 hown1 hg1 hat1
       have bl1 := Below.grown ((((Below.refl w.heap.size w).alloc (by simp) _).alloc (by simp) _).alloc (by simp <;> omega) _) hg1 (by simp <;> omega) (by simp [Value.ownBlock])
       have n1 := (hg1.block w.heap.size (by simp <;> omega) (by simp [Value.ownBlock])).trans (heap3 _ _ _ _).1
       have r1 := (hg1.block (w.heap.size + 1) (by simp <;> omega) (by simp [Value.ownBlock])).trans (heap3 _ _ _ _).2.1
       have x1 := (hg1.block (w.heap.size + 1 + 1) (by simp) (by simp [Value.ownBlock])).trans (heap3 _ _ _ _).2.2
       have sz1 : w.heap.size + 1 + 1 + 1 ≤ w1.heap.size := by have := hg1.size; simp at this; omega
       have far1 : ∀ k, v1.ownBlock = some k → w.heap.size + 1 + 1 + 1 ≤ k ∧ k < w1.heap.size := fun k hk => by
         refine ⟨?_, (hown1.lt k hk).2⟩
         rcases hat1 with h | h <;> rw [h] at hk <;> simp [Value.ownBlock] at hk
         omega
       obtain ⟨A1, n1', c1, rfl⟩ := ownsRow_slice hown1
       have n1b := box3 n1
       have x1b := box3 x1)
    | ((go_loud (refine wpList_append_view (e := .int .i64) rfl _ _ 23 rfl (by kernel_rfl) hi3 z3 s3 b3 rfl (by decide) (by rfl) (by rfl) (World.ownsRow_nil _ w.heap.size _ _) (view_below (F' := F) rfl qk (bl1.setCell (by simp <;> omega) _)) (by omega) (by unfold maxLen; omega) (by simp; omega) ?_))
       intro v2 w2 hown2 hg2 hat2
       go_loud (have bl2 := Below.grown (bl1.setCell (p := ⟨w.heap.size + 1 + 1, 0, none⟩) (by simp <;> omega) _) hg2 (by simp <;> omega) (by simp [Value.ownBlock])
                have n2 := ((hg2.block w.heap.size (by simp <;> omega) (by simp [Value.ownBlock])).trans (Below.heap_setCell _ _ _ _ (by simp <;> omega))).trans n1
                have r2 := ((hg2.block (w.heap.size + 1) (by simp <;> omega) (by simp [Value.ownBlock])).trans (Below.heap_setCell _ _ _ _ (by simp <;> omega))).trans r1
                have x2 := (hg2.block (w.heap.size + 1 + 1) (by simp <;> omega) (by simp [Value.ownBlock])).trans (box3_set x1 _).1
                have sz2 : w1.heap.size ≤ w2.heap.size := by have := hg2.size; simp at this; omega
                have hown1' := (ownsRow_kept_low hown1 far1 (by simp <;> omega)).kept hg2 (by cases hv : A1 <;> simp [Value.ownBlock])
                have far2 : ∀ k, v2.ownBlock = some k → w.heap.size + 1 + 1 + 1 ≤ k ∧ k < w2.heap.size := fun k hk => by
                  refine ⟨?_, (hown2.lt k hk).2⟩
                  rcases hat2 with h | h <;> rw [h] at hk <;> simp [Value.ownBlock] at hk
                  omega)
       obtain ⟨A2, n2', c2, rfl⟩ := ownsRow_slice hown2
       have n2b := box3 n2
       have x2b := box3 x2))
  have ci : CInv w (.slice Ap ps.length cp) (.slice Ak ks.length ck) (.slice Ab bs.length cb) ps ks np nk w2.heap.size (.slice A1 n1' c1) (.slice A2 n2' c2) (w2.setCell ⟨w.heap.size + 1 + 1, 1, none⟩ (.slice A2 n2' c2)) (.slice none 0 0) [] (bs.take 0) := {
    below := bl2.setCell (by simp <;> omega) _
    n := (Below.heap_setCell _ _ _ _ (by simp <;> omega)).trans n2
    r := (Below.heap_setCell _ _ _ _ (by simp <;> omega)).trans r2
    x := (box3_set x2 _).2.1
    p := ownsRow_kept_low (by rw [Nat.zero_add] at hown1'; exact hown1') (fun k hk => ⟨(far1 k hk).1, by have := (far1 k hk).2; omega⟩) (by simp)
    k := ownsRow_kept_low (by rw [Nat.zero_add] at hown2; exact hown2) far2 (by simp)
    pf := fun k hk => ⟨(far1 k hk).1, by have := (far1 k hk).2; omega⟩
    kf := far2
    lo := by omega
    hi := by simp
    pk := fun k hk hh => by
      have h1 := (far1 k hk).2
      rcases hat2 with h | h <;> rw [h] at hh <;> simp [Value.ownBlock] at hh
      omega
    b := Nest.nil _ _ _ _ _ }
  go_loopw [4] (fun i wr => ∃ (m : Nat) (bv' : Value) (rv : List Value), m ≤ bs.length ∧ i = .int .i64 m ∧ CInv w (.slice Ap ps.length cp) (.slice Ak ks.length ck) (.slice Ab bs.length cb) ps ks np nk w2.heap.size (.slice A1 n1' c1) (.slice A2 n2' c2) wr bv' rv (bs.take m)) (fun i _ => bs.length - (intOf i).toNat)
  case atStart => exact ⟨0, _, _, Nat.zero_le _, rfl, ci⟩
  case round =>
    obtain ⟨m, bv', rv, hm, rfl, hc⟩ := hrel
    clear ci hg1 bl1 n1 r1 x1 sz1 hown1 hat1 far1 n1b x1b hg2 bl2 n2 r2 x2 sz2 hown1' hown2 hat2 far2 n2b x2b
    have nb := box3 hc.n
    have xb := box3 hc.x
    have rb := box3 hc.r
    by_cases hlt : m < bs.length
    · obtain ⟨ab, rfl⟩ : ∃ ab, Ab = some ab := by
        cases Ab with
        | some a => exact ⟨a, rfl⟩
        | none => have := qb.nil rfl; have := qb.le; omega
      obtain ⟨row, Am, cm, cellsm, hrow, qm⟩ := view_row hF qb hlt
      obtain rfl := qm.val
      have hrow' : wr.cell? (ab.add m) = some (.slice Am (bs[m]).length cm) := by
        rw [← hrow]
        exact World.cell?_of_block (w := w) (by rw [add_block]; exact hc.below.block _ (qb.blk ab rfl (by intro h; rw [h] at hlt; simp at hlt)))
      have hm0 : (0 : Int) ≤ (m : Int) := Int.natCast_nonneg _
      have hm1 : (m : Int) < (bs.length : Int) := by omega
      obtain ⟨A3, n3, c3, rfl⟩ := ownsRow_slice hc.b.top
      have hown3 : ∀ k, (Value.slice A3 n3 c3).ownBlock = some k → w2.heap.size ≤ k ∧ k < wr.heap.size := hc.b.top.lt
      have hlo := hc.lo
      have hhi := hc.hi
      have hab : ab.block < w.heap.size := qb.blk ab rfl (by intro h; rw [h] at hlt; simp at hlt)
      have ne1 : some (w.heap.size + 1 + 1) ≠ (Value.slice A3 n3 c3).ownBlock := fun h => by have := (hown3 _ h.symm).1; omega
      have ne2 : some w.heap.size ≠ (Value.slice A3 n3 c3).ownBlock := fun h => by have := (hown3 _ h.symm).1; omega
      have ne3 : some (ab.add m).block ≠ (Value.slice A3 n3 c3).ownBlock := fun h => by have := (hown3 _ h.symm).1; rw [add_block] at this; omega
      have hbm : (bs[m]).length ≤ 5000 := by
        have := hp.bl m
        rw [List.getD_eq_getElem?_getD, List.getElem?_eq_getElem hlt] at this
        exact this
      have hrl : rv.length = m := by rw [hc.b.len, List.length_take]; omega
      have hcd := hc.grown (show wr.grownBy wr.drew none from ⟨rfl, rfl, rfl, Nat.le_refl _, fun _ _ _ => rfl⟩)
      have st2 : ∀ (W : World) (v : Value), (W.setCell ⟨w.heap.size + 1 + 1, 2, none⟩ v).cell? ⟨w.heap.size, 2, none⟩ = W.cell? ⟨w.heap.size, 2, none⟩ := fun W v => World.cell?_of_block (Below.heap_setCell _ _ _ _ (by simp <;> omega))
      have st3 : ∀ (W : World) (v : Value), (W.setCell ⟨w.heap.size + 1 + 1, 2, none⟩ v).cell? (ab.add m) = W.cell? (ab.add m) := fun W v => World.cell?_of_block (Below.heap_setCell _ _ _ _ (by rw [add_block]; simp <;> omega))
      go_wp2_with fail
      go_region_law (first
          | (refine step_append_view (e := MsgT) (by rfl) _ _ 32 (by rfl) (by kernel_rfl) hi28 z28 s28 b28 rfl (by decide) (by rfl) (by rfl) (World.ownsRow_nil _ w2.heap.size _ _) (view_below (F' := F) rfl qm hc.below.drew) (by omega) (by unfold maxLen; omega) hc.hi ?_
             intro r wA hownr hgr hatr
             obtain ⟨A4, n4, c4, rfl⟩ := ownsRow_slice hownr
             have hcA := hcd.grown hgr
             have hxA := box3 hcA.x
             have hnA := box3 hcA.n
             have hrA := hgr.cell hrow' (by simp [Value.ownBlock])
             have hcB := hcA.grown (World.grownBy_alloc wA (.cells #[.slice A4 n4 c4] 32) none)
             have hxB := box3 hcB.x
             have hnB := box3 hcB.n)
          | (go_loud (refine step_append_lies _ (by rfl) _ _ 24 (by rfl) w2.heap.size 32 i32 _ 1 24 (by kernel_rfl) hi32 z32 s32 b32 rfl (by omega) (.slice A3 n3 c3) rv.length rv (by rfl) hcB.b.top ⟨wA.heap.size, 0, none⟩ 1 1 [.slice A4 n4 c4] (by rfl) (by rfl) (World.news_of_block (cs := #[.slice A4 n4 c4]) (t := 32) (fr := (0, 0)) (Go.heap_alloc_new wA _)) (by simp [Value.oneCell']) (by omega) (by unfold maxLen; omega) (by omega) hcB.hi (wA.heap.size + 1) (by simp) ?_)
             intro g5 cap5 wB hownv hgv hatv hltv
             go_loud (have xB := box3 ((hgv.block _ (by have := hcA.hi; simp; omega) ne1).trans hcB.x))))
      all_goals
        have hst := hcd.step hgr (c := bs[m]) (by rw [Nat.zero_add] at hownr; exact hownr) (reps_flat MsgT (by rfl) _ _ qm.rows) hatr (World.grownBy_alloc wA (.cells #[.slice A4 n4 c4] 32) none) hgv hownv
          (by rcases hatv with h | h
              · exact .inl h.symm
              · right; subst h; simp [Value.ownBlock])
        rw [show bs.take m ++ [bs[m]] = bs.take (m + 1) from (List.take_succ_eq_append_getElem hlt).symm] at hst
        go_wp2
        go_roundw
        case rel => exact ⟨m + 1, _, _, by omega, by simp, by rw [hrl] at hst; exact hst⟩
        case measure => simp [intOf]; omega
    · have hml : m = bs.length := by omega
      subst hml
      rw [List.take_length] at hc
      obtain ⟨A3, n3, c3, rfl⟩ := ownsRow_slice hc.b.top
      have hres := hc.result (grown_set3 wr (w.heap.size + 1) (.slice A1 n1' c1) (.slice A2 n2' c2) (.slice A3 n3 c3)) (reps_flat .str (by rfl) _ _ qp.rows) (reps_flat (.int .i64) (by rfl) _ _ qk.rows)
      have hcl := (grown_cells hc.r (.slice A1 n1' c1) (.slice A2 n2' c2) (.slice A3 n3 c3))
      go_wp2
      (try simp only [Exit.inBlock, Exit.then])
      refine bodyPost_ret (v := .agg #[.slice A1 n1' c1, .slice A2 n2' c2, .slice A3 n3 c3]) ?_ rfl ⟨_, _, _, _, _, rfl, hres⟩
      rw [results_one (p := 2) (ty := 26) (by kernel_rfl)]
      have hb := box3 hcl
      go_simp
end Go.Proofs.Ytjifalccioebnaa

set_option linter.unusedVariables false
set_option linter.unusedSimpArgs false
set_option maxRecDepth 8000
set_option maxHeartbeats 4000000
namespace Go.Proofs.Ytjifalccioebnaa
open Go.Proofs Go.RowKit Go.Eng
theorem cell_mono {w w' : World} {F : Nat → Prop} (hF : ∀ b, F b → b < w.heap.size) (hb : Below w.heap.size w w') {t : Ty} {x : t.den} {cs : List Value} (h : rep w F t x cs) : rep w' F t x cs :=
  rep_mono (fun b h => ⟨h, hb.block b (hF b h)⟩) t x cs h
theorem inn_rep {w : World} {F : Nat → Prop} {ps : List (List UInt8)} {ks : List Int} {bs : List (List Msg)} {a b c : Value} (h1 : rep w F (.slice .str) ps [a]) (h2 : rep w F (.slice (.int .i64)) ks [b]) (h3 : rep w F (.slice (.slice MsgT)) bs [c]) :
    rep w F InT (ps, ks, bs) [a, b, c] := ⟨[a], [b, c], rfl, h1, [b], [c], rfl, h2, h3⟩
def msgV (m : Msg) : List Value := [.int .u8 m.1, .string ⟨⟨m.2.1⟩⟩, .int .i64 m.2.2.1, .int .i64 m.2.2.2.1, .bool m.2.2.2.2.1, .string ⟨⟨m.2.2.2.2.2⟩⟩]
theorem msg_rep {w : World} {F : Nat → Prop} {m : Msg} (h : Eng.Good MsgT m) : rep w F MsgT m (msgV m) := by
  obtain ⟨h1, h2, h3, h4, h5, h6⟩ := h
  exact ⟨[_], _, rfl, ⟨rfl, h1⟩, [_], _, rfl, ⟨rfl, h2⟩, [_], _, rfl, ⟨rfl, h3⟩, [_], _, rfl, ⟨rfl, h4⟩, [_], _, rfl, rfl, rfl, h6⟩
theorem whole_c {w : World} {F : Nat → Prop} (hF : ∀ b, F b → b < w.heap.size) {n : Inn} {a b c : Value} (h : rep w F InT n [a, b, c]) :
    Calls Try.prog 35 #[.agg #[a, b, c]] w fun e w' => e = .returned (.bool (wholeI n)) ∧ Below w.heap.size w w' := by
  refine (pWholeR w F (n, ()) [.agg #[a, b, c]] hF ⟨_, _, rfl, RV_vOfDen (C := Cx.at Try.prog w F) (g := Gh.at F) InT n _ h ⟨_, rfl⟩, rfl⟩ trivial).mono ?_
  rintro e w' ⟨x, g', rfl, q⟩
  refine ⟨?_, q.below⟩
  have hv := q.val
  change RV _ _ _ (.b (wholeI n)) x at hv
  simp only [RV] at hv
  rw [hv]
theorem mcheck_c {w : World} {m : Msg} (h : Eng.Good MsgT m) :
    Calls Try.prog 39 #[.agg (msgV m).toArray] w fun e w' => e = .returned (.int .i64 (mcheck m)) ∧ Below w.heap.size w w' := by
  refine (pMCheckR w (fun _ => False) (m, ()) [.agg (msgV m).toArray] (fun _ h => h.elim) ⟨_, _, rfl, RV_vOfDen (C := Cx.at Try.prog w (fun _ => False)) (g := Gh.at (fun _ => False)) MsgT m _ (msg_rep h) ⟨_, rfl⟩, rfl⟩ trivial).mono ?_
  rintro e w' ⟨x, g', rfl, q⟩
  refine ⟨?_, q.below⟩
  have hv := q.val
  change RV _ _ _ (.i .i64 (mcheck m)) x at hv
  simp only [RV] at hv
  rw [hv.1]
theorem wide_c {w : World} {m : Msg} (h : Eng.Good MsgT m) :
    Calls Try.prog 40 #[.agg (msgV m).toArray] w fun e w' => e = .returned (.bool (wide m)) ∧ Below w.heap.size w w' := by
  refine (pWideR w (fun _ => False) (m, ()) [.agg (msgV m).toArray] (fun _ h => h.elim) ⟨_, _, rfl, RV_vOfDen (C := Cx.at Try.prog w (fun _ => False)) (g := Gh.at (fun _ => False)) MsgT m _ (msg_rep h) ⟨_, rfl⟩, rfl⟩ trivial).mono ?_
  rintro e w' ⟨x, g', rfl, q⟩
  refine ⟨?_, q.below⟩
  have hv := q.val
  change RV _ _ _ (.b (wide m)) x at hv
  simp only [RV] at hv
  rw [hv]
theorem route_c {w : World} {F : Nat → Prop} (hF : ∀ b, F b → b < w.heap.size) {n : Inn} {key : List UInt8} {a b c : Value} (h : rep w F InT n [a, b, c]) (hk : key.length ≤ maxLen) :
    Calls Try.prog 41 #[.agg #[a, b, c], .string ⟨⟨key⟩⟩] w fun e w' => e = .returned (.int .i64 (routeI n.1 key)) ∧ Below w.heap.size w w' := by
  refine (pRouteR w F (n, key, ()) [.agg #[a, b, c], .string ⟨⟨key⟩⟩] hF ⟨_, _, rfl, RV_vOfDen (C := Cx.at Try.prog w F) (g := Gh.at F) InT n _ h ⟨_, rfl⟩, _, _, rfl, RV_vOfDen (C := Cx.at Try.prog w F) (g := Gh.at F) .str key _ ⟨rfl, hk⟩ rfl, rfl⟩ trivial).mono ?_
  rintro e w' ⟨x, g', rfl, q⟩
  refine ⟨?_, q.below⟩
  have hv := q.val
  change RV _ _ _ (.i .i64 (routeI n.1 key : Nat)) x at hv
  simp only [RV] at hv
  rw [hv.1]
theorem Copied.data {w w' : World} {pv kv bv : Value} {ps : List (List UInt8)} {ks : List Int} {bs : List (List Msg)} {B : Nat} {rv : List Value} (h : Copied w w' pv kv bv ps ks bs B rv) {F : Nat → Prop} (hF : ∀ b, F b → b < w.heap.size) :
    QRes (Cx.at Try.prog w F) w (Gh.at F) 0 (.agg [.sl .str ps, .sl (.int .i64) ks, .sl (.slice MsgT) bs]) [] (.agg #[pv, kv, bv]) w' (Gh.at fun c => F c ∨ (w.heap.size ≤ c ∧ c < w'.heap.size)) := by
  obtain ⟨pc, p1, p2, p3⟩ := h.p
  obtain ⟨kc, k1, k2, k3⟩ := h.k
  refine ⟨h.below, fun _ h => .inl h, fun _ h => h, fun _ h => ⟨h, rfl⟩, fun _ h => .inl h, ?_, fun id o h => (by simp [lookN] at h), fun id o _ _ _ h => (by simp [lookN] at h)⟩
  simp only [RV, RVs]
  refine ⟨[pv, kv, bv], rfl, pv, [kv, bv], rfl, ?_, kv, [bv], rfl, ?_, bv, [], rfl, ?_, rfl⟩
  · exact rep_own (e := .str) p1 (reps_flat .str (by rfl) _ _ p2) fun k hk => .inr (p1.lt k hk)
  · exact rep_own (e := .int .i64) k1 (reps_flat (.int .i64) (by rfl) _ _ k2) fun k hk => .inr (k1.lt k hk)
  · exact h.b.rep (by rfl) fun k h1 h2 => .inr ⟨Nat.le_trans h.lo h1, h2⟩
theorem Nest.rows {w : World} {b : Nat} {tr te : TypeId} {E : Ty} {v : Value} {rv : List Value} {R : List (List E.den)} (he : E.flat = true) (h : Nest w b tr te E v rv R) {F : Nat → Prop} (hF : ∀ (i : Nat) (r : Value) (k : Nat), rv[i]? = some r → r.ownBlock = some k → F k) : reps w F (.slice E) R rv := by
  have hrows : ∀ (rv : List Value) (R : List (List E.den)), rv.length = R.length → (∀ (i : Nat) (r : Value) (c : List E.den), rv[i]? = some r → R[i]? = some c → ∃ cells, w.ownsRow b te E.cells r c.length cells ∧ reps w (fun _ => False) E c cells) → (∀ (i : Nat) (r : Value) (k : Nat), rv[i]? = some r → r.ownBlock = some k → F k) → reps w F (.slice E) R rv := by
    intro rv
    induction rv with
    | nil =>
      intro R hl _ _
      have : R = [] := List.eq_nil_of_length_eq_zero (by simpa using hl.symm)
      subst this
      rfl
    | cons r rv ih =>
      intro R hl hh hf
      cases R with
      | nil => simp at hl
      | cons c R =>
        obtain ⟨cells, h3, h4⟩ := hh 0 r c rfl rfl
        exact ⟨[r], rv, rfl, rep_own h3 (reps_flat E he _ _ h4) (fun k hk => hf 0 r k rfl hk), ih R (by simpa using hl) (fun i r' c' hr hc => hh (i + 1) r' c' (by simpa using hr) (by simpa using hc)) fun i r' k hr hk => hf (i + 1) r' k (by simpa using hr) hk⟩
  exact hrows rv R h.len h.row hF
theorem ablk_row {w : World} {base : Nat} {te : TypeId} {size n : Nat} {v : Value} {xs : List Value} (h : w.ownsRow base te size v n xs) : ablk v = v.ownBlock := (ablk_own (ownsRow_slice h)).symm
theorem Copied.own {w w' : World} {pv kv bv : Value} {ps : List (List UInt8)} {ks : List Int} {bs : List (List Msg)} {B : Nat} {rv : List Value} (h : Copied w w' pv kv bv ps ks bs B rv) {F : Nat → Prop} (hF : ∀ b, F b → b < w.heap.size) :
    QRes (Cx.at Try.prog w F) w (Gh.at F) 0 (.agg [.own 0, .own 1, .own 2]) [(0, .arr 9 .str ps), (1, .arr 3 (.int .i64) ks), (2, .arr 32 (.slice MsgT) bs)] (.agg #[pv, kv, bv]) w'
      ⟨fun id => match id with | 0 => pv | 1 => kv | _ => bv, fun c => F c ∨ ((w.heap.size ≤ c ∧ c < w'.heap.size) ∧ pv.ownBlock ≠ some c ∧ kv.ownBlock ≠ some c ∧ bv.ownBlock ≠ some c), fun id => id < 3⟩ := by
  obtain ⟨pc, p1, p2, p3⟩ := h.p
  obtain ⟨kc, k1, k2, k3⟩ := h.k
  have hlo := h.lo
  have ht := h.b.top
  have htl := ht.lt
  rw [h.b.len] at ht
  have ap := ablk_row p1
  have ak := ablk_row k1
  have ab := ablk_row ht
  have rows := h.b.rows (by rfl) (F := fun c => F c ∨ ((w.heap.size ≤ c ∧ c < w'.heap.size) ∧ pv.ownBlock ≠ some c ∧ kv.ownBlock ≠ some c ∧ bv.ownBlock ≠ some c)) (fun i r k hi hk => by
    have hb := h.b.blk hi hk
    exact .inr ⟨⟨by omega, hb.2⟩, fun hh => by have := p3 k hh; omega, fun hh => by have := k3 k hh; omega, h.b.far i r k hi hk⟩)
  have look : ∀ id o, lookN [(0, Eng.Obj.arr 9 .str ps), (1, .arr 3 (.int .i64) ks), (2, .arr 32 (.slice MsgT) bs)] id = some o → (id = 0 ∧ o = .arr 9 .str ps) ∨ (id = 1 ∧ o = .arr 3 (.int .i64) ks) ∨ (id = 2 ∧ o = .arr 32 (.slice MsgT) bs) := by
    intro id o ho
    match id, ho with
    | 0, ho => exact .inl ⟨rfl, by simpa [lookN] using ho.symm⟩
    | 1, ho => exact .inr (.inl ⟨rfl, by simpa [lookN] using ho.symm⟩)
    | 2, ho => exact .inr (.inr ⟨rfl, by simpa [lookN] using ho.symm⟩)
    | n + 3, ho =>
      have e0 : Nat.beq 0 (n + 3) = false := by cases h : Nat.beq 0 (n + 3) <;> first | rfl | (have := Nat.eq_of_beq_eq_true h; omega)
      have e1 : Nat.beq 1 (n + 3) = false := by cases h : Nat.beq 1 (n + 3) <;> first | rfl | (have := Nat.eq_of_beq_eq_true h; omega)
      have e2 : Nat.beq 2 (n + 3) = false := by cases h : Nat.beq 2 (n + 3) <;> first | rfl | (have := Nat.eq_of_beq_eq_true h; omega)
      simp only [lookN, e0, e1, e2] at ho
      cases ho
  refine ⟨h.below, fun _ h => .inl h, fun c hc => hc.imp id fun h => h.1, fun _ h => h.elim, fun id h => .inr ⟨Nat.zero_le _, by have : id < 3 := h; omega⟩, ?_, fun id o ho => ?_, fun id o id' o' b ho ho' _ _ hb hb' => ?_⟩
  · simp only [RV, RVs]
    exact ⟨[pv, kv, bv], rfl, pv, [kv, bv], rfl, ⟨show 0 < 3 by omega, by rfl, ownsRow_slice p1⟩, kv, [bv], rfl, ⟨show 1 < 3 by omega, by rfl, ownsRow_slice k1⟩, bv, [], rfl, ⟨show 2 < 3 by omega, by rfl, ownsRow_slice ht⟩, rfl⟩
  · rcases look id o ho with ⟨rfl, rfl⟩ | ⟨rfl, rfl⟩ | ⟨rfl, rfl⟩
    · refine ⟨⟨Nat.zero_le _, by omega⟩, show 0 < 3 by omega, ⟨pc, p1.mono (Nat.zero_le _), reps_flat .str (by rfl) _ _ p2, by decide, fun b hb => ?_⟩, fun b hb => ?_⟩
      · have hb' : pv.ownBlock = some b := ap ▸ hb
        have := p1.lt b hb'
        exact ⟨.inr this.1, fun hf => hf.elim (fun hf => by have := hF b hf; omega) fun hf => hf.2.1 hb'⟩
      · exact (p1.lt b (ap ▸ hb)).1
    · refine ⟨⟨Nat.zero_le _, by omega⟩, show 1 < 3 by omega, ⟨kc, k1.mono (Nat.zero_le _), reps_flat (.int .i64) (by rfl) _ _ k2, by decide, fun b hb => ?_⟩, fun b hb => ?_⟩
      · have hb' : kv.ownBlock = some b := ak ▸ hb
        have := k1.lt b hb'
        exact ⟨.inr this.1, fun hf => hf.elim (fun hf => by have := hF b hf; omega) fun hf => hf.2.2.1 hb'⟩
      · exact (k1.lt b (ak ▸ hb)).1
    · refine ⟨⟨Nat.zero_le _, by omega⟩, show 2 < 3 by omega, ⟨rv, ht.mono (Nat.zero_le _), rows, by decide, fun b hb => ?_⟩, fun b hb => ?_⟩
      · have hb' : bv.ownBlock = some b := ab ▸ hb
        have := htl b hb'
        exact ⟨.inr (by show w.heap.size ≤ b; omega), fun hf => hf.elim (fun hf => by have := hF b hf; omega) fun hf => hf.2.2.2 hb'⟩
      · have := htl b (ab ▸ hb); omega
  · rcases look id o ho with ⟨rfl, rfl⟩ | ⟨rfl, rfl⟩ | ⟨rfl, rfl⟩ <;> rcases look id' o' ho' with ⟨rfl, rfl⟩ | ⟨rfl, rfl⟩ | ⟨rfl, rfl⟩
    all_goals first
      | rfl
      | exfalso
    · exact h.pk b (ap ▸ hb) (ak ▸ hb')
    · have := p3 b (ap ▸ hb); have := (htl b (ab ▸ hb')).1; omega
    · exact h.pk b (ap ▸ hb') (ak ▸ hb)
    · have := k3 b (ak ▸ hb); have := (htl b (ab ▸ hb')).1; omega
    · have := p3 b (ap ▸ hb'); have := (htl b (ab ▸ hb)).1; omega
    · have := k3 b (ak ▸ hb'); have := (htl b (ab ▸ hb)).1; omega
def sCopiedO : PSpec := ⟨[.d InT], [⟨true, [.o 9 .str, .o 3 (.int .i64), .o 32 (.slice MsgT)]⟩], fun x => IPre x.1, fun x => ((x.1.1, (x.1.2.1, (x.1.2.2, ()))), ())⟩
theorem fCopiedO : FnOk Try.prog 32 := ⟨_, Try.func32, by decide, rfl⟩
theorem pCopiedO : PSound Try.prog 32 sCopiedO := by
  intro w F xs vals hF hv hpre
  obtain ⟨⟨ps, ks, bs⟩, ⟨⟩⟩ := xs
  change RVs _ _ _ [.agg [.sl .str ps, .sl (.int .i64) ks, .sl (.slice MsgT) bs]] _ at hv
  simp only [RVs, RV] at hv
  obtain ⟨x, _, rfl, ⟨vs, rfl, a, _, rfl, h1, b, _, rfl, h2, c, _, rfl, h3, rfl⟩, rfl⟩ := hv
  refine (copied_w w F hF a b c ps ks bs hpre h1 h2 h3).mono ?_
  rintro e w' ⟨pv', kv', bv', B, rv, rfl, hc⟩
  exact ⟨_, _, rfl, hc.own hF⟩
def sCopied : PSpec := ⟨[.d InT], [⟨true, [.d InT]⟩], fun x => IPre x.1, fun x => ((x.1, ()), ())⟩
theorem fCopied : FnOk Try.prog 32 := ⟨_, Try.func32, by decide, rfl⟩
theorem pCopied : PSound Try.prog 32 sCopied := by
  intro w F xs vals hF hv hpre
  obtain ⟨⟨ps, ks, bs⟩, ⟨⟩⟩ := xs
  change RVs _ _ _ [.agg [.sl .str ps, .sl (.int .i64) ks, .sl (.slice MsgT) bs]] _ at hv
  simp only [RVs, RV] at hv
  obtain ⟨x, _, rfl, ⟨vs, rfl, a, _, rfl, h1, b, _, rfl, h2, c, _, rfl, h3, rfl⟩, rfl⟩ := hv
  refine (copied_w w F hF a b c ps ks bs hpre h1 h2 h3).mono ?_
  rintro e w' ⟨pv', kv', bv', B, rv, rfl, hc⟩
  exact ⟨_, _, rfl, hc.data hF⟩
end Go.Proofs.Ytjifalccioebnaa

set_option linter.unusedVariables false
set_option linter.unusedSimpArgs false
set_option maxRecDepth 100000
set_option pp.maxSteps 900
set_option pp.deepTerms false
set_option maxHeartbeats 4000000
namespace Go.Proofs.Ytjifalccioebnaa
open Go.Proofs Go.RowKit Go.Shelf Go.Lib Go.Eng
attribute [local go_sem ↓] Go.wp_at_zero Go.wp_at_succ
theorem box6 {w : World} {k : Nat} {a b c d e f : Value} {t : TypeId} (h : w.heap[k]? = some (.cells #[a, b, c, d, e, f] t (0, 0))) :
    w.cell? ⟨k, 0, none⟩ = some a ∧ w.cell? ⟨k, 1, none⟩ = some b ∧ w.cell? ⟨k, 2, none⟩ = some c ∧ w.cell? ⟨k, 3, none⟩ = some d ∧ w.cell? ⟨k, 4, none⟩ = some e ∧ w.cell? ⟨k, 5, none⟩ = some f := by
  refine ⟨?_, ?_, ?_, ?_, ?_, ?_⟩ <;> simp [World.cell?, h]
structure AInv (w : World) (nv mv : Array Value) (ps : List (List UInt8)) (ks : List Int) (X B : Nat) (V1 V2 : Value) (wr : World) (bv : Value) (rv : List Value) (R : List (List Msg)) : Prop where
  below : Below w.heap.size w wr
  n : wr.heap[w.heap.size]? = some (.cells nv 26 (0, 0))
  m : wr.heap[w.heap.size + 1]? = some (.cells mv 28 (0, 0))
  r : wr.heap[w.heap.size + 1 + 1]? = some (.cells #[.slice none 0 0, .slice none 0 0, .slice none 0 0] 26 (0, 0))
  x : wr.heap[X]? = some (.cells #[V1, V2, bv] 26 (0, 0))
  p : ∃ c, wr.ownsRow (w.heap.size + 1 + 1 + 1) 9 1 V1 ps.length c ∧ reps wr (fun _ => False) .str ps c
  k : ∃ c, wr.ownsRow (w.heap.size + 1 + 1 + 1) 3 1 V2 ks.length c ∧ reps wr (fun _ => False) (.int .i64) ks c
  pf : ∀ k, V1.ownBlock = some k → k < B
  kf : ∀ k, V2.ownBlock = some k → k < B
  lo : w.heap.size + 1 + 1 + 1 ≤ B
  hi : B ≤ X
  top : X < wr.heap.size
  pk : ∀ k, V1.ownBlock = some k → V2.ownBlock ≠ some k
  b : Nest wr B 32 28 MsgT bv rv R
  xf : bv.ownBlock ≠ some X
  rf : ∀ (i : Nat) (r : Value), rv[i]? = some r → r.ownBlock ≠ some X
section
variable {w wr w0 w1 : World} {nv mv : Array Value} {ps : List (List UInt8)} {ks : List Int} {X B : Nat} {V1 V2 bv : Value} {rv : List Value} {R : List (List Msg)}
theorem AInv.grown (h : AInv w nv mv ps ks X B V1 V2 wr bv rv R) (hg : wr.grownBy w1 none) : AInv w nv mv ps ks X B V1 V2 w1 bv rv R where
  below := h.below.grown hg (by have := h.lo; have := h.hi; have := h.top; omega) (by simp)
  n := (hg.block _ (by have := h.lo; have := h.hi; have := h.top; omega) (by simp)).trans h.n
  m := (hg.block _ (by have := h.lo; have := h.hi; have := h.top; omega) (by simp)).trans h.m
  r := (hg.block _ (by have := h.lo; have := h.hi; have := h.top; omega) (by simp)).trans h.r
  x := (hg.block _ h.top (by simp)).trans h.x
  p := by
    obtain ⟨c, h1, h2⟩ := h.p
    exact ⟨c, h1.kept hg (by cases hv : V1.ownBlock <;> simp), reps_flat .str (by rfl) _ _ h2⟩
  k := by
    obtain ⟨c, h1, h2⟩ := h.k
    exact ⟨c, h1.kept hg (by cases hv : V2.ownBlock <;> simp), reps_flat (.int .i64) (by rfl) _ _ h2⟩
  pf := h.pf
  kf := h.kf
  lo := h.lo
  hi := h.hi
  top := Nat.lt_of_lt_of_le h.top hg.size
  pk := h.pk
  b := h.b.low (by rfl) hg (by simp)
  xf := h.xf
  rf := h.rf
theorem AInv.belowed (h : AInv w nv mv ps ks X B V1 V2 wr bv rv R) (hg : Below wr.heap.size wr w1) : AInv w nv mv ps ks X B V1 V2 w1 bv rv R :=
  h.grown ⟨hg.os, hg.tape, hg.output, hg.size, fun k hk _ => hg.block k hk⟩
theorem AInv.drew (h : AInv w nv mv ps ks X B V1 V2 wr bv rv R) : AInv w nv mv ps ks X B V1 V2 wr.drew bv rv R :=
  h.grown ⟨rfl, rfl, rfl, Nat.le_refl _, fun _ _ _ => rfl⟩
theorem AInv.first (hc : Copied (((w.alloc (.cells nv 26)).alloc (.cells mv 28)).alloc (.cells #[.slice none 0 0, .slice none 0 0, .slice none 0 0] 26)) w1 V1 V2 bv ps ks R B rv) :
    AInv w nv mv ps ks w1.heap.size B V1 V2 (w1.alloc (.cells #[V1, V2, bv] 26)) bv rv R := by
  have hlo := hc.lo
  have hhi := hc.hi
  obtain ⟨pc, p1, p2, p3⟩ := hc.p
  obtain ⟨kc, k1, k2, k3⟩ := hc.k
  have hb := hc.below
  obtain ⟨e1, e2, e3⟩ := heap3 w (.cells nv 26) (.cells mv 28) (.cells #[.slice none 0 0, .slice none 0 0, .slice none 0 0] 26)
  have b0 : Below w.heap.size w (((w.alloc (.cells nv 26)).alloc (.cells mv 28)).alloc (.cells #[.slice none 0 0, .slice none 0 0, .slice none 0 0] 26)) := (((Below.refl _ _).alloc (by simp) _).alloc (by simp) _).alloc (by simp <;> omega) _
  have sz : (((w.alloc (.cells nv 26)).alloc (.cells mv 28)).alloc (.cells #[.slice none 0 0, .slice none 0 0, .slice none 0 0] 26)).heap.size = w.heap.size + 1 + 1 + 1 := by simp
  rw [sz] at hlo p1 k1 hb
  have old : ∀ k, k < w1.heap.size → (w1.alloc (.cells #[V1, V2, bv] 26)).heap[k]? = w1.heap[k]? := fun k hk => Below.heap_alloc _ _ _ hk
  exact {
    below := (b0.trans (hb.mono (by omega))).alloc (by omega) _
    n := ((old _ (by omega)).trans (hb.block _ (by omega))).trans e1
    m := ((old _ (by omega)).trans (hb.block _ (by omega))).trans e2
    r := ((old _ (by omega)).trans (hb.block _ (by omega))).trans e3
    x := Go.heap_alloc_new _ _
    p := ⟨pc, p1.alloc _, reps_flat .str (by rfl) _ _ p2⟩
    k := ⟨kc, k1.alloc _, reps_flat (.int .i64) (by rfl) _ _ k2⟩
    pf := p3
    kf := k3
    lo := hlo
    hi := hhi
    top := by simp
    pk := hc.pk
    b := hc.b.low (by rfl) (World.grownBy_alloc _ _ none) (by simp)
    xf := fun hh => by have := (hc.b.top.lt _ hh).2; omega
    rf := fun i r hi hh => by have := (hc.b.blk hi hh).2; omega }
theorem AInv.step {g n cap i : Nat} {r r' : Value} {c : List Msg} {cells : List Value} (h : AInv w nv mv ps ks X B V1 V2 w0 (.slice (some ⟨g, 0, none⟩) n cap) rv R) (hi : rv[i]? = some r) (hg : w0.grownBy w1 r.ownBlock)
    (hown : w1.ownsRow B 28 MsgT.cells r' c.length cells) (hc : reps w1 (fun _ => False) MsgT c cells) (hat : r'.ownBlock = r.ownBlock ∨ r'.ownBlock = some w0.heap.size) :
    AInv w nv mv ps ks X B V1 V2 (w1.setCell ⟨g, i, none⟩ r') (.slice (some ⟨g, 0, none⟩) n cap) (rv.set i r') (R.set i c) := by
  have hlo := h.lo
  have hhi := h.hi
  have htp := h.top
  have hgb := h.b.top.lt g rfl
  have hgX : g ≠ X := fun hh => h.xf (by subst hh; rfl)
  have hrb : ∀ k, r.ownBlock = some k → B ≤ k := fun k hk => (h.b.blk hi hk).1
  have hrX : r.ownBlock ≠ some X := h.rf i r hi
  have gs : ∀ k, k ≠ g → (w1.setCell ⟨g, i, none⟩ r').heap[k]? = w1.heap[k]? := fun k hk => Below.heap_setCell _ _ _ _ hk
  have low : ∀ k, k < B → (w1.setCell ⟨g, i, none⟩ r').heap[k]? = w0.heap[k]? := fun k hk => (gs k (by omega)).trans (hg.block k (by omega) (fun hh => by have := hrb k hh.symm; omega))
  have s1 := hg.size
  have kept : ∀ {te : TypeId} {size n : Nat} {v : Value} {xs : List Value}, w0.ownsRow (w.heap.size + 1 + 1 + 1) te size v n xs → (∀ k, v.ownBlock = some k → k < B) → (w1.setCell ⟨g, i, none⟩ r').ownsRow (w.heap.size + 1 + 1 + 1) te size v n xs := fun {te size n v xs} ho hk => by
    have h1 := ho.kept hg (by
      cases hv : v.ownBlock with
      | none => exact .inl rfl
      | some k => exact .inr fun hh => by have := hk k hv; have := hrb k hh.symm; omega)
    refine h1.kept (row := some g) ⟨rfl, rfl, rfl, by simp, fun k _ hh => gs k (fun he => hh (by rw [he]))⟩ ?_
    cases hv : v.ownBlock with
    | none => exact .inl rfl
    | some k =>
      refine .inr fun hh => ?_
      have := hk k hv
      simp at hh
      omega
  exact {
    below := (h.below.grown hg (by omega) (fun k hk => by have := hrb k hk; omega)).setCell (by simp <;> omega) _
    n := (low _ (by omega)).trans h.n
    m := (low _ (by omega)).trans h.m
    r := (low _ (by omega)).trans h.r
    x := ((gs X (fun hh => hgX hh.symm)).trans (hg.block X htp (fun hh => hrX hh.symm))).trans h.x
    p := by
      obtain ⟨c, h1, h2⟩ := h.p
      exact ⟨c, kept h1 h.pf, reps_flat .str (by rfl) _ _ h2⟩
    k := by
      obtain ⟨c, h1, h2⟩ := h.k
      exact ⟨c, kept h1 h.kf, reps_flat (.int .i64) (by rfl) _ _ h2⟩
    pf := h.pf
    kf := h.kf
    lo := hlo
    hi := hhi
    top := by simp; omega
    pk := h.pk
    b := h.b.swap (by rfl) hi hg hown hc hat
    xf := h.xf
    rf := fun j s hs => by
      rw [List.getElem?_set] at hs
      split at hs
      · split at hs
        · simp only [Option.some.injEq] at hs
          subst hs
          rcases hat with h1 | h1
          · rw [h1]; exact hrX
          · rw [h1]
            intro hh
            simp at hh
            omega
        · simp at hs
      · exact h.rf j s hs }
theorem AInv.result (h : AInv w nv mv ps ks X B V1 V2 wr bv rv R) (hg : wr.grownBy w1 (some (w.heap.size + 1 + 1))) : Copied w w1 V1 V2 bv ps ks R B rv := by
  have hlo := h.lo
  have hhi := h.hi
  have htp := h.top
  obtain ⟨pc, p1, p2⟩ := h.p
  obtain ⟨kc, k1, k2⟩ := h.k
  exact {
    below := h.below.grown hg (by omega) (fun k hk => by simp at hk; omega)
    lo := by omega
    hi := by have := hg.size; omega
    p := ⟨pc, (p1.kept hg (by
      cases hv : V1.ownBlock with
      | none => exact .inl rfl
      | some k => exact .inr fun hh => by have := (p1.lt k hv).1; simp at hh; omega)).mono (by omega), reps_flat _ (by rfl) _ _ p2, h.pf⟩
    k := ⟨kc, (k1.kept hg (by
      cases hv : V2.ownBlock with
      | none => exact .inl rfl
      | some k => exact .inr fun hh => by have := (k1.lt k hv).1; simp at hh; omega)).mono (by omega), reps_flat _ (by rfl) _ _ k2, h.kf⟩
    b := h.b.low (by rfl) hg (fun k hk => by simp at hk; omega)
    pk := h.pk }
end
end Go.Proofs.Ytjifalccioebnaa
