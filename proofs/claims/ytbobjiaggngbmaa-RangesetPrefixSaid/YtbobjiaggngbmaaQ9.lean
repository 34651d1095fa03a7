import Derived.Test.YtbobjiaggngbmaaQ7
import Derived.Test.YtbobjiaggngbmaaQ8
import Derived.Test.YtbobjiaggngbmaaEng6
import Derived.Test.YtbobjiaggngbmaaEng5
import Derived.Test.YtbobjiaggngbmaaEng4
import Derived.WalkKit
import Derived.Lib.Bytealg
import Derived.Shelf.GgSortFunc.InsertionK
import Derived.Shelf.Sort.Plain
import Derived.Shelf.SlSortCmp.NoneTotal
import Derived.Test.YtbobjiaggngbmaaProg
/- Texts, one behind the other. -/
set_option linter.unusedVariables false
set_option linter.unusedSimpArgs false
set_option maxRecDepth 8000
set_option maxHeartbeats 4000000
namespace Go.Proofs.Ytbobjiaggngbmaa
open Go.Eng Go.RowKit
abbrev RgT : Ty := .pair .str .str
def rgA (r : Rg) : V := .agg [.s r.1, .s r.2]
theorem RV_rgA {C : Cx} {w : World} {g : Gh} {r : Rg} (h : Eng.Good RgT r) : RV C w g (rgA r) (rgVal r) := by
  obtain ⟨h1, h2⟩ := h
  simp only [rgA, RV, RVs]
  exact ⟨[_, _], rfl, _, _, rfl, ⟨rfl, h1⟩, _, _, rfl, ⟨rfl, h2⟩, rfl⟩
theorem holdsR_of_rep {w : World} {F : Nat → Prop} {rs : List Rg} {sv : Value} (h : rep w F (.slice RgT) rs [sv]) : HoldsR w F sv rs := by
  obtain ⟨A, cap, h1, h2, h3, h4, h5⟩ := h
  obtain rfl : sv = .slice A rs.length cap := by simpa using h1
  cases A with
  | none =>
    obtain rfl := h4 rfl
    obtain rfl : rs = [] := List.eq_nil_of_length_eq_zero (by omega)
    exact .inl ⟨rfl, rfl⟩
  | some ad =>
    refine .inr ⟨ad, cap, rfl, fun j hj => ?_⟩
    obtain ⟨a, ci, ha, hf, hc, hr⟩ := h5 j hj
    cases ha
    obtain ⟨c1, r1, rfl, ⟨rfl, -⟩, ⟨rfl, -⟩⟩ := hr
    have hm : rs.getD j rg0 = rs[j] := by rw [List.getD_eq_getElem?_getD, List.getElem?_eq_getElem hj]; rfl
    rw [hm]
    refine ⟨hf, ?_, ?_⟩
    · have := hc 0 _ rfl; exact this
    · rw [add_add]; exact hc 1 _ rfl
theorem start_rel {C : Cx} {w : World} {g : Gh} {h : Heap} {N : Nat} {args : List V} {vals : List Value} (R : RelH C h w g) (hU : ∀ id, g.U id → id < frN C.pins h) (hn : vals.length ≤ N) (hv : RVs C w g args vals) :
    RelT C N ⟨paramEnv 0 args, h⟩ { tmps := vals.toArray ++ Array.replicate (N - vals.toArray.size) undef, defers := [] } w g := by
  have hsz : (vals.toArray ++ Array.replicate (N - vals.toArray.size) undef).size = N := by simp; omega
  refine ⟨R, fun t v ht => ?_, hU, hsz, rfl⟩
  obtain ⟨_, h2⟩ := paramEnv_look args 0 t v ht
  rw [Nat.sub_zero] at h2
  obtain ⟨x, h3, h4⟩ := RVs_at hv h2
  refine ⟨x, ?_, h4⟩
  have hlt := (List.getElem?_eq_some_iff.1 h3).1
  simp only
  rw [Array.getElem?_append_left (by simpa using hlt)]
  simpa using h3
def allNamed (ids : List Nat) : Heap → Bool
  | [] => true
  | (k, o) :: r => (!o.mut || ids.contains k) && allNamed ids r
theorem allNamed_look {ids : List Nat} : ∀ {h : Heap}, allNamed ids h = true → ∀ {id : Nat} {o : Eng.Obj}, lookN h id = some o → o.mut = true → id ∈ ids
  | [], _, _, _, hc, _ => by simp [lookN] at hc
  | (k, o') :: r, hn, id, o, hc, hm => by
    simp only [allNamed, Bool.and_eq_true] at hn
    simp only [lookN] at hc
    cases hb : Nat.beq k id
    · rw [hb] at hc; exact allNamed_look hn.2 hc hm
    · rw [hb] at hc
      simp only [Option.some.injEq] at hc
      subst hc
      obtain rfl := Nat.eq_of_beq_eq_true hb
      simpa [hm] using hn.1
theorem seq_pre {C : Cx} {N : Nat} {keep : List (Nat × List Nat)} {T : Tab} {S : Specs} (hpin : pinsOf keep = C.pins) (hT : TabOk C.P T) (hS : SpecsOk C.P S) (hmix : C.P.follows .mixedOrders = true) {x y : Code} {st st1 : St} {a : Act} {w : World} {g : Gh} {n : Nat} {Q : Exit → Act → World → Prop} (hok : codeOk N x = true)
    (hs : vc T S keep x st (roundK st1)) (r : RelT C N st a w g) (hy : ∀ a w g, RelT C N st1 a w g → y.wpIn Fence.wide n C.P Q a w) : (Code.seq x y).wpIn Fence.wide n C.P Q a w :=
  wpIn_seq (wpIn_wide.2 (vc_sound hpin hT hS hmix x st _ a w g hok hs r _ fun e s a w g hk r => by
    cases e with
    | normal => obtain rfl := Leaf.out hk; exact hy a w g r
    | exit id => exact hk.elim
    | ret => exact hk.elim
    | goto l => exact hk.elim))
structure StOk (ids : List Nat) (st : St) : Prop where
  pin : pinned ids st.heap = true
  len : ids.length ≤ st.heap.length
  map : noMap st.heap = true
  fine : fineH st.heap = true
  env : st.env.all (fun p => p.2.fine) = true
set_option maxHeartbeats 2000000 in
theorem range_vals {C : Cx} (hP : C.P = Try.prog) (hC : C.pins = ([], 0)) {N : Nat} {ids : List Nat} {keep : List (Nat × List Nat)} (hpin : pinsOf keep = (ids, ids.length)) {T : Tab} {S : Specs} (hT : TabOk C.P T) (hS : SpecsOk C.P S)
    {rs : List Rg} (hrs : rs.length ≤ 1000000) (hgood : ∀ m ∈ rs, Eng.Good RgT m) {assign body : Code} {p d : Nat} {Q : Exit → Act → World → Prop} (hp : p < N)
    (hoa : codeOk N assign = true) (hia : inOk assign = true) (hob : codeOk N body = true) (hib : inOk body = true)
    (stI stA stB : Nat → St) {a2 : Act} {w2 : World} {g2 : Gh} {st2 : St} (r2 : RelT C N st2 a2 w2 g2)
    (hd : lookN st2.env d = some (.fn 65 [.rp [.sl RgT rs]]))
    (hn0 : allNamed ids st2.heap = true) (hst0 : (stI 0).heap = st2.heap) (hen : ∀ k, (stI k).env = (stI 0).env)
    (hE : ∀ t v, lookN (stI 0).env t = some v → lookN st2.env t = some v ∧ ∃ j, j ∈ ids ∧ v = .ptr j 0)
    (okI : ∀ k, StOk ids (stI k)) (okA : ∀ k, StOk ids (stA k)) (okB : ∀ k, StOk ids (stB k)) (hB : ∀ k, (stB k).heap = (stI (k + 1)).heap)
    (hva : ∀ k, k < rs.length → vc T S keep assign ⟨(p, rgA (rs.getD k rg0)) :: (stI k).env, (stI k).heap⟩ (roundK (stA k)))
    {kp : List Nat} (hvb : ∀ k, k < rs.length → vc T S keep body (stA k) (roundN ids kp (stB k)))
    (hQ : ∀ (E : Nat) (W : World), C.w0.heap.size ≤ E → StI C N ids g2.anch (w2.heap.size + 0) w2.heap.size (stI rs.length) a2 W → W.heap[E]? = some (.deferred (some [])) →
      Q .normal { a2 with defers := { target := .collected E, args := #[] } :: a2.defers } W) {n : Nat} :
    (Code.rangeFunc (.tmp d) #[p] assign body).wpIn Fence.wide n C.P Q a2 w2 := by
  refine wpIn_wide.2 (wpIn_wide (n := 10).1 ?_)
  -- the closure, what it has caught
  obtain ⟨x, hx1, hx2⟩ := r2.E d _ hd
  simp only [RV, RVs] at hx2
  obtain ⟨us, rfl, xv, xs', rfl, ⟨⟨blk, off, sub⟩, vs1, rfl, hFb, hcell, sv, vs2, rfl, hrep, rfl⟩, rfl⟩ := hx2
  have hbs : w2.cell? ⟨blk, off, sub⟩ = some sv := by
    have := hcell 0 sv rfl
    simpa [Addr.add] using this
  have hH := holdsR_of_rep hrep
  have hF := r2.H.F
  have hw0 := r2.H.size
  let Kx : Nat → Go.Obj → Prop := fun b o => o.isCells = false ∨ g2.F b
  have hup := vals_all blk off sub sv rs hrs Kx (fun b o h => .inl h) w2 (hF _ hFb) (fun o _ => .inr hFb) hbs
    (by
      rcases hH with h | ⟨ad, cap, h1, h2⟩
      · exact .inl h
      · exact .inr ⟨ad, cap, h1, fun j hj => ⟨⟨hF _ (h2 j hj).1, fun o _ => .inr (h2 j hj).1⟩, (h2 j hj).2⟩⟩) 9 (by omega)
  have hpi0 : ∀ j, j ∈ ids → ∃ o, lookN st2.heap j = some o ∧ o.mut = true := fun j hj => by
    obtain ⟨o, h1, h2⟩ := pinned_look (st := stI 0) (okI 0).pin hj
    rw [hst0] at h1; exact ⟨o, h1, h2⟩
  have hK1 : ∀ j ∈ ids, ∀ b (o : Go.Obj), ablk (g2.anch j) = some b → o.isCells = true → ¬ Kx b o := fun j hj b o hb ho hk => by
    obtain ⟨o', h1, h2⟩ := hpi0 j hj
    obtain ⟨h3, h4⟩ := RO_block (r2.H.obj j o' h1).2 h2 hb
    rcases hk with h5 | h5
    · rw [ho] at h5; cases h5
    · exact h4.2 h5
  have hK2 : ∀ b (o : Go.Obj), w2.heap.size + 0 ≤ b → o.isCells = true → ¬ Kx b o := fun b o hb ho hk => by
    rcases hk with h5 | h5
    · rw [ho] at h5; cases h5
    · have := hF b h5; omega
  have hpe : ∀ k, PinEnv ids g2.anch (stI k).heap a2.tmps (stI 0).env := fun k t v ht => by
    obtain ⟨h1, j, hj, rfl⟩ := hE t v ht
    obtain ⟨o, ho, -⟩ := pinned_look (okI k).pin hj
    obtain ⟨y, h2, h3⟩ := r2.E t _ h1
    simp only [RV] at h3
    obtain ⟨-, ad, h4, rfl⟩ := h3
    exact ⟨j, ad, rfl, hj, ⟨o, ho⟩, h4, h2⟩
  have hI0 : StI C N ids g2.anch (w2.heap.size + 0) w2.heap.size (stI 0) a2 w2 := by
    have e0 : stI 0 = ⟨(stI 0).env, st2.heap⟩ := by rw [← hst0]
    rw [e0]
    refine ⟨g2, ⟨⟨r2.H, fun t v ht => r2.E t v (hE t v ht).1, r2.ub, r2.sz, r2.df⟩, fun b hb h1 => absurd (hF b hb) (by omega), fun _ _ => rfl, fun id o b ho hm hid _ => absurd (allNamed_look hn0 ho hm) hid⟩⟩
  have hmem : ∀ k, k < rs.length → Eng.Good RgT (rs.getD k rg0) := fun k hk => hgood _ (getD_mem (xs := rs) rg0 hk)
  have hlen : ∀ {pre : List Value} {x : Value} {post : List Value}, rs.map rgVal = pre ++ x :: post → pre.length < rs.length ∧ x = rgVal (rs.getD pre.length rg0) := fun {pre x post} h => by
    have h1 : pre.length < rs.length := by have := congrArg List.length h; simp at this; omega
    refine ⟨h1, ?_⟩
    have h2 := congrArg (fun l => l[pre.length]?) h
    simp only [List.getElem?_map, List.getElem?_eq_getElem h1, List.getElem?_append_right (Nat.le_refl _), Nat.sub_self, List.getElem?_cons_zero, Option.map_some, Option.some.injEq] at h2
    rw [← h2, List.getD_eq_getElem?_getD, List.getElem?_eq_getElem h1]
    try rfl
  have hdf := r2.df
  rw [hP]
  refine range_all (P := Try.prog) (F := Fence.wide) (n := 10) rfl (by omega) (gf := 65) (lb := #[.pointer (some ⟨blk, off, sub⟩)]) ?hg trivial (enters_of Try.func65 (by kernel_rfl) rfl) hup (fun _ => rfl) (fun b o h => .inl h)
    (fun pre W => StI C N ids g2.anch (w2.heap.size + 0) w2.heap.size (stI pre.length) a2 W) (StI.own (fun pre : List Value => stI pre.length) (fun _ => a2) (fun pre => (okI pre.length).map) hw0) hI0
    (fun pre x a' W => StI C N ids g2.anch (w2.heap.size + 0) w2.heap.size (stA pre.length) a' W) (fun pre x a' => StI.own (fun _ : Unit => stA pre.length) (fun _ => a') (fun _ => (okA _).map) hw0) ?assign ?body ?done
  case hg =>
    simp only [Act.eval, Array.getD_eq_getD_getElem?, hx1, Option.getD_some]
  case assign =>
    intro l pre x post W hxs hD hI
    obtain ⟨hk, rfl⟩ := hlen hxs
    have k1 := hI.more (t := p) (v := rgA (rs.getD pre.length rg0)) (x := rgVal (rs.getD pre.length rg0)) hp (fun w g => RV_rgA (hmem _ hk))
    have h9 := StI.step (st := ⟨(p, rgA (rs.getD pre.length rg0)) :: (stI pre.length).env, (stI pre.length).heap⟩) (st' := stA pre.length) (l := l) (m := 10 - 1 - 1) hC hpin hT hS hoa hia (okI _).pin (okA _).pin (okI _).len (okA _).len (okI _).map (okA _).env (okA _).fine (hva _ hk) hK1 hK2 k1 hD
    rw [hP] at h9
    have ha : ({ a2 with tmps := a2.tmps.setIfInBounds p (rgVal (rs.getD pre.length rg0)) } : Act) = { tmps := (#[p].zip #[rgVal (rs.getD pre.length rg0)]).foldl (fun t (q : Tmp × Value) => t.setIfInBounds q.1 q.2) a2.tmps, defers := [] } := by
      rw [hdf]; simp
    rw [ha] at h9
    refine wpIn_mono h9 fun e a w h => ?_
    obtain ⟨rfl, h1, h2⟩ := h
    exact ⟨h1, h2⟩
  case body =>
    intro l pre x post a' W hxs hD hI
    obtain ⟨hk, rfl⟩ := hlen hxs
    have h9 := StI.stepN (kp := kp) (st := stA pre.length) (st' := stB pre.length) (l := l) (m := 10 - 1 - 1) hC hpin hT hS hob hib (okA _).pin (okB _).pin (okA _).len (okB _).len (okA _).map (okB _).env (okB _).fine (hvb _ hk) hK1 hK2 hI hD
    rw [hP] at h9
    refine wpIn_mono h9 fun e a w h => ?_
    obtain ⟨rfl, h1, h2⟩ := h
    refine ⟨rfl, ?_, h2⟩
    have h3 := h1.reenv (a2 := a2) (env2 := (stI 0).env) (by rw [hB]; exact hpe _) r2.sz hdf
    rw [hB] at h3
    have e1 : (pre ++ [rgVal (rs.getD pre.length rg0)]).length = pre.length + 1 := by simp
    rw [e1]
    have e2 : stI (pre.length + 1) = ⟨(stI 0).env, (stI (pre.length + 1)).heap⟩ := by rw [← hen (pre.length + 1)]
    rw [e2]; exact h3
  case done =>
    intro E W hE hI hd'
    rw [List.length_map] at hI
    exact hQ E W (Nat.le_trans hw0 hE) hI hd'
def rgO (m : Rg) : Eng.Obj := .box [.s m.1, .s m.2]
def asI (rs : List Rg) : Nat → St
  | 0 => ⟨[(2, .ptr 0 0)], [(0, .box [.nil])]⟩
  | k + 1 => ⟨[(2, .ptr 0 0)], [(0, .box [.own 1]), (1, .arr 29 RgT (rs.take (k + 1)))]⟩
def asA (rs : List Rg) : Nat → St
  | 0 => ⟨[(2, .ptr 0 0), (5, .ptr 1 0)], [(0, .box [.nil]), (1, rgO (rs.getD 0 rg0))]⟩
  | k + 1 => ⟨[(2, .ptr 0 0), (5, .ptr 1 0)], [(0, .box [.own 2]), (1, rgO (rs.getD (k + 1) rg0)), (2, .arr 29 RgT (rs.take (k + 1)))]⟩
def asKeep : List (Nat × List Nat) := [(3000000, [0]), (2, [2, 5]), (3, [2])]
theorem take_snocR {l : List Rg} {k : Nat} (h : k < l.length) : l.take (k + 1) = l.take k ++ [l.getD k rg0] := by
  rw [List.take_add_one, List.getElem?_eq_getElem h, List.getD_eq_getElem?_getD, List.getElem?_eq_getElem h]; rfl
def sAppSeq : PSpec := ⟨[.z, .fb 65 (.slice RgT)], [⟨false, [.o 29 RgT]⟩], fun x => List.length x.2.1 ≤ 100000, fun x => ((x.2.1, ()), ())⟩
theorem fAppSeq : FnOk Try.prog 80 := ⟨_, Try.func80, by decide, rfl⟩
theorem pAppSeq : PSound Try.prog 80 sAppSeq := by
  refine psoundC fun w F xs vals hF hv hpre => ?_
  have hg := argsV_good _ _ _ hv
  obtain ⟨⟨⟩, rs, ⟨⟩⟩ := xs
  change List Rg at rs
  change rs.length ≤ 100000 at hpre
  refine (callsIn_wide (n := 10)).1 (callsIn_of_wp_marks Try.func80 rfl trivial ?_)
  have hvl := RVs_len hv
  have r0 := start_rel (N := 13) (RelH.at Try.prog w F hF) (fun id h => h.elim) (by rw [hvl]; exact Nat.le_of_ble_eq_true rfl) hv
  change RelT _ _ ⟨[(0, .nil), (1, .fn 65 [.rp [.sl RgT rs]])], []⟩ _ _ _ at r0
  refine seq_pre (C := Cx.at Try.prog w F) (keep := [(0, [1, 2])]) (T := tab) (S := (spOf [])) (st1 := ⟨[(1, .fn 65 [.rp [.sl RgT rs]]), (2, .ptr 0 0)], [(0, .box [.nil])]⟩) rfl tabOk spNil (by kernel_rfl) (by kernel_rfl) ?v1 r0 fun a1 w1 g1 r1 => ?_
  case v1 =>
    refine Ev.out ?_
    repeat' (first | ((with_reducible refine Ev.mk ?_); conv => whnf) | (with_reducible refine And.intro ?_ ?_) | (intro h))
    exact Leaf.mk rfl
  refine wpIn_seq ?_
  refine seq_pre (C := Cx.at Try.prog w F) (keep := [(1, [2, 6])]) (T := tab) (S := (spOf [])) (st1 := ⟨[(2, .ptr 0 0), (6, .fn 65 [.rp [.sl RgT rs]])], [(0, .box [.nil])]⟩) rfl tabOk spNil (by kernel_rfl) (by kernel_rfl) ?v1 r1 fun a3 w3 g3 r3 => ?_
  case v1 =>
    refine Ev.out ?_
    repeat' (first | ((with_reducible refine Ev.mk ?_); conv => whnf) | (with_reducible refine And.intro ?_ ?_) | (intro h))
    exact Leaf.mk rfl
  clear r0 r1
  refine wpIn_block ?_
  refine range_vals (ids := [0]) (keep := asKeep) (kp := [2]) (T := tab) (S := (spOf [])) rfl rfl (N := 13) rfl tabOk spNil (by omega) ?hgood (by decide) (by kernel_rfl) (by kernel_rfl) (by kernel_rfl) (by kernel_rfl) (asI rs) (asA rs) (fun k => asI rs (k + 1)) r3 rfl (by kernel_rfl) rfl ?hen ?hE ?okI ?okA ?okB ?hB ?hva ?hvb ?hQ
  case hgood => exact hg.1.2
  case hen => intro k; cases k <;> rfl
  case hE =>
    intro t v ht
    have := lookN_mem _ _ _ ht
    simp only [asI, List.mem_singleton, Prod.mk.injEq] at this
    obtain ⟨rfl, rfl⟩ := this
    exact ⟨rfl, 0, by simp, rfl⟩
  case okI => intro k; cases k <;> exact ⟨rfl, Nat.le_of_ble_eq_true rfl, rfl, rfl, rfl⟩
  case okA => intro k; cases k <;> exact ⟨rfl, Nat.le_of_ble_eq_true rfl, rfl, rfl, rfl⟩
  case okB => intro k; exact ⟨rfl, Nat.le_of_ble_eq_true rfl, rfl, rfl, rfl⟩
  case hB => intro k; rfl
  case hva =>
    intro k hk
    cases k
    · refine Ev.out ?_
      repeat' (first | ((with_reducible refine Ev.mk ?_); conv => whnf) | (with_reducible refine And.intro ?_ ?_) | (intro h))
      exact Leaf.mk rfl
    · refine Ev.out ?_
      repeat' (first | ((with_reducible refine Ev.mk ?_); conv => whnf) | (with_reducible refine And.intro ?_ ?_) | (intro h))
      exact Leaf.mk rfl
  case hvb =>
    intro k hk
    have ht := take_snocR hk
    have h9 := List.length_take_le k rs
    cases k
    · refine Ev.out ?_
      repeat' (first | ((with_reducible refine Ev.mk ?_); conv => whnf) | (with_reducible refine And.intro ?_ ?_) | (intro h))
      · exact Leaf.mk (by simp)
      · exact Leaf.mk (by simp [maxLen])
      · refine Leaf.mk ?_
        simp only [asI, ht]; rfl
    · refine Ev.out ?_
      repeat' (first | ((with_reducible refine Ev.mk ?_); conv => whnf) | (with_reducible refine And.intro ?_ ?_) | (intro h))
      · exact Leaf.mk (by rw [List.length_singleton]; omega)
      · exact Leaf.mk (by rw [List.length_singleton]; unfold maxLen; omega)
      · refine Leaf.mk ?_
        simp only [asI, ht]
  case hQ =>
    intro E W hE hI hd
    cases hn : rs.length with
    | zero =>
      rw [hn] at hI
      refine StI.ends (keep := [(4, [4])]) (T := tab) (S := (spOf [])) rfl rfl tabOk spNil (by kernel_rfl) (by kernel_rfl) (by kernel_rfl) ?_ hI rfl hd hE
      refine Ev.out ?_
      repeat' (first | ((with_reducible refine Ev.mk ?_); conv => whnf) | (with_reducible refine And.intro ?_ ?_) | (intro h))
      · exact Leaf.mk rfl
      · refine Ev.out ?_
        repeat' (first | ((with_reducible refine Ev.mk ?_); conv => whnf) | (with_reducible refine And.intro ?_ ?_) | (intro h))
        refine Leaf.mk (ret1 (show ([] : List Rg) = rs from ?_))
        exact (List.eq_nil_of_length_eq_zero hn).symm
    | succ n =>
      rw [hn] at hI
      refine StI.ends (keep := [(4, [4])]) (T := tab) (S := (spOf [])) rfl rfl tabOk spNil (by kernel_rfl) (by kernel_rfl) (by kernel_rfl) ?_ hI rfl hd hE
      refine Ev.out ?_
      repeat' (first | ((with_reducible refine Ev.mk ?_); conv => whnf) | (with_reducible refine And.intro ?_ ?_) | (intro h))
      · exact Leaf.mk rfl
      · refine Ev.out ?_
        repeat' (first | ((with_reducible refine Ev.mk ?_); conv => whnf) | (with_reducible refine And.intro ?_ ?_) | (intro h))
        refine Leaf.mk (ret1 (show rs.take (n + 1) = rs from ?_))
        exact List.take_of_length_le (by omega)
end Go.Proofs.Ytbobjiaggngbmaa

set_option linter.unusedVariables false
set_option linter.unusedSimpArgs false
set_option maxRecDepth 8000
set_option maxHeartbeats 4000000
namespace Go.Proofs.Ytbobjiaggngbmaa
open Go.Proofs Go.RowKit Go.Shelf Go.Lib Go.Sort
set_option maxRecDepth 100000 in
theorem cmpString_w (a b : ByteArray) (w : World) : Calls Try.prog 66 #[.string a, .string b] w fun e w' => e = .returned (.int .i64 (Lib.compareBytes a.data.toList b.data.toList)) ∧ w' = w := by
  go_enter Try.func66, Try.ntmps66
  go_wp2
  rw [run_callFunc_extern Try.func83 (by kernel_rfl) (by kernel_rfl) (by kernel_rfl) (e := Extern.BytealgCompare.compare) (by kernel_rfl), Lib.run_compareString]
  simp only [Result.andThen]
  rw [Oper.upon_value]
  go_wp2
  go_ret
  exact ⟨rfl, rfl⟩
set_option maxRecDepth 100000 in
theorem sCompare_w (a b : ByteArray) (w : World) : Calls Try.prog 39 #[.string a, .string b] w fun e w' => e = .returned (.int .i64 (Lib.compareBytes a.data.toList b.data.toList)) ∧ w' = w := by
  have hcon := fun W => cmpString_w a b W
  generalize Lib.compareBytes a.data.toList b.data.toList = r at hcon ⊢
  go_enter Try.func39, Try.ntmps39
  go_wp2_with (go_at_call 66; refine (hcon _).mono ?_; rintro e w' ⟨rfl, rfl⟩)
  go_ret
  exact ⟨rfl, rfl⟩
def encR (r : Rg) : List Value := [.string ⟨⟨r.1⟩⟩, .string ⟨⟨r.2⟩⟩]
def cmpR (x y : Rg) : Int := Lib.compareBytes x.1 y.1
set_option maxRecDepth 100000 in
theorem plain1_w (x y : Rg) (W : World) : Calls Try.prog 38 #[.agg #[.string ⟨⟨x.1⟩⟩, .string ⟨⟨x.2⟩⟩], .agg #[.string ⟨⟨y.1⟩⟩, .string ⟨⟨y.2⟩⟩]] W fun e w' => e = .returned (.int .i64 (cmpR x y)) ∧ ∃ q os', w' = grow (W.drewN q) os' := by
  have hcon := fun W => sCompare_w ⟨⟨x.1⟩⟩ ⟨⟨y.1⟩⟩ W
  change ∀ W, Calls Try.prog _ #[.string ⟨⟨x.1⟩⟩, .string ⟨⟨y.1⟩⟩] W fun e w' => e = .returned (.int .i64 (cmpR x y)) ∧ w' = W at hcon
  generalize cmpR x y = r at hcon ⊢
  go_enter Try.func38, Try.ntmps38
  go_wp2_with (go_at_call 39; refine (hcon _).mono ?_; rintro e w' ⟨rfl, rfl⟩)
  go_ret
  exact ⟨rfl, 0, _, by rw [alloc_eq_grow, alloc_eq_grow, grow_grow]; rfl⟩
end Go.Proofs.Ytbobjiaggngbmaa

set_option linter.unusedVariables false
set_option linter.unusedSimpArgs false
set_option maxRecDepth 8000
set_option maxHeartbeats 4000000
namespace Go.Proofs.Ytbobjiaggngbmaa
open Go.Eng
abbrev RgsT : Ty := .slice RgT
def endR (r : Rg) : Bool := r.2 == []
def sEndless : PSpec := ⟨[.d RgT], [⟨false, [.d .bool]⟩], fun _ => True, fun x => ((endR x.1, ()), ())⟩
theorem fEndless : FnOk Try.prog 41 := ⟨_, Try.func41, by decide, rfl⟩
theorem pEndless : PSound Try.prog 41 sEndless := by
  refine psound (T := tab) (S := (spOf [])) (keep := k41) (by kernel_rfl) tabOk spNil (by kernel_rfl) Try.func41 (by kernel_rfl) (by decide) fun xs hg hp => ?_
  obtain ⟨⟨lo, hi⟩, ⟨⟩⟩ := xs
  change List UInt8 at lo hi
  show vfun tab _ k41 Try.f41 [.agg [.s lo, .s hi]] [] _
  refine Ev.out ?_
  repeat' (first | ((with_reducible refine Ev.mk ?_); conv => whnf) | (with_reducible refine And.intro ?_ ?_) | (intro h))
  all_goals exact Leaf.mk rfl
def sEmpty : PSpec := ⟨[.d RgT], [⟨false, [.d .bool]⟩], fun _ => True, fun x => ((emptyR x.1, ()), ())⟩
theorem fEmpty : FnOk Try.prog 40 := ⟨_, Try.func40, by decide, rfl⟩
theorem pEmpty : PSound Try.prog 40 sEmpty := by
  refine psound (T := tab) (S := (spOf [(41, sEndless.spec (lsOf []))])) (keep := k40) (by kernel_rfl) tabOk (spCons (pOk pEndless fEndless (by decide) lsNil) spNil) (by kernel_rfl) Try.func40 (by kernel_rfl) (by decide) fun xs hg hp => ?_
  obtain ⟨⟨lo, hi⟩, ⟨⟩⟩ := xs
  change List UInt8 at lo hi
  show vfun tab _ k40 Try.f40 [.agg [.s lo, .s hi]] [] _
  refine Ev.out ?_
  repeat' (first | ((with_reducible refine Ev.mk ?_); conv => whnf) | (with_reducible refine And.intro ?_ ?_) | (intro h))
  all_goals (try simp only [decide_eq_true_eq, decide_eq_false_iff_not, beq_iff_eq, bne_iff_ne, beq_eq_false_iff_ne, bne_eq_false_iff_eq, Int.toNat_natCast, ge_iff_le, gt_iff_lt, Bool.not_eq_true', Bool.not_eq_false', Int.not_lt, Int.not_le, ne_eq] at *)
  all_goals (try dsimp only [Ty.den, Ty.dflt, RgT, sEndless] at *)
  all_goals (try simp only [eq4, ne4, eq3, ne3, eq2, ne2, Prod.eta, List.length_cons, List.length_nil, List.length_append, Nat.zero_add] at *)
  all_goals (try simp (disch := omega) only [wrap64] at *)
  all_goals try first | exact leafDraw (by kernel_rfl) | exact Leaf.mk trivial | (refine Leaf.mk ?_; omega) | (refine Leaf.mk ?_; unfold maxLen; omega)
  all_goals
    refine Leaf.mk (ret1 (show _ = emptyR (lo, hi) from ?_))
    simp_all [emptyR, endR]
def sHasR1 : PSpec := ⟨[.d RgT, .d .str], [⟨false, [.d .bool]⟩], fun _ => True, fun x => ((inRg x.1 x.2.1, ()), ())⟩
theorem fHasR1 : FnOk Try.prog 58 := ⟨_, Try.func58, by decide, rfl⟩
theorem pHasR1 : PSound Try.prog 58 sHasR1 := by
  refine psound (T := tab) (S := (spOf [(41, sEndless.spec (lsOf []))])) (keep := k58) (by kernel_rfl) tabOk (spCons (pOk pEndless fEndless (by decide) lsNil) spNil) (by kernel_rfl) Try.func58 (by kernel_rfl) (by decide) fun xs hg hp => ?_
  obtain ⟨⟨lo, hi⟩, k, ⟨⟩⟩ := xs
  change List UInt8 at lo hi k
  show vfun tab _ k58 Try.f58 [.agg [.s lo, .s hi], .s k] [] _
  refine Ev.out ?_
  repeat' (first | ((with_reducible refine Ev.mk ?_); conv => whnf) | (with_reducible refine And.intro ?_ ?_) | (intro h))
  all_goals (try simp only [decide_eq_true_eq, decide_eq_false_iff_not, beq_iff_eq, bne_iff_ne, beq_eq_false_iff_ne, bne_eq_false_iff_eq, Int.toNat_natCast, ge_iff_le, gt_iff_lt, Bool.not_eq_true', Bool.not_eq_false', Int.not_lt, Int.not_le, ne_eq] at *)
  all_goals (try dsimp only [Ty.den, Ty.dflt, RgT, sEndless] at *)
  all_goals (try simp only [eq4, ne4, eq3, ne3, eq2, ne2, Prod.eta, List.length_cons, List.length_nil, List.length_append, Nat.zero_add] at *)
  all_goals (try simp (disch := omega) only [wrap64] at *)
  all_goals try first | exact leafDraw (by kernel_rfl) | exact Leaf.mk trivial | (refine Leaf.mk ?_; omega) | (refine Leaf.mk ?_; unfold maxLen; omega)
  all_goals
    refine Leaf.mk (ret1 (show _ = inRg (lo, hi) k from ?_))
    simp_all [inRg, endR]
def sIndexFuncR : PSpec := ⟨[.d (.slice RgT), .lam RgT .bool], [⟨false, [.d (.int .i64)]⟩], fun _ => True, fun x => ((idxF x.2.1 x.1 0, ()), ())⟩
theorem fIndexFuncR : FnOk Try.prog 79 := ⟨_, Try.func79, by decide, rfl⟩
theorem pIndexFuncR : PSound Try.prog 79 sIndexFuncR := by
  refine psound (T := tab) (S := (spOf [])) (keep := k79) (by kernel_rfl) tabOk spNil (by kernel_rfl) Try.func79 (by kernel_rfl) (by decide) fun xs hg hp => ?_
  obtain ⟨xs, p, ⟨⟩⟩ := xs
  obtain ⟨⟨hl, -⟩, -⟩ := hg
  change List Rg at xs
  change Rg → Bool at p
  have hl := len63 hl
  clear hp
  show vfun tab _ k79 Try.f79 [.sl RgT xs, .lam RgT .bool p] [] _
  refine Ev.out ?_
  repeat' (first | ((with_reducible refine Ev.mk ?_); conv => whnf) | (with_reducible refine And.intro ?_ ?_) | (intro h))
  refine LoopVC.on (fun i : Nat => [(8, .i .i64 i)]) (fun _ => []) (fun i => i ≤ xs.length ∧ idxF p xs 0 = idxF p (xs.drop i) i) (fun i => xs.length - i) 0 rfl ⟨by omega, by simp⟩ ?_
  intro i ⟨hi, he⟩
  repeat' (first | ((with_reducible refine Ev.mk ?_); conv => whnf) | (with_reducible refine And.intro ?_ ?_) | (intro h))
  all_goals (try simp only [decide_eq_true_eq, decide_eq_false_iff_not, beq_iff_eq, bne_iff_ne, beq_eq_false_iff_ne, bne_eq_false_iff_eq, Int.toNat_natCast, ge_iff_le, gt_iff_lt, Bool.not_eq_true', Bool.not_eq_false', Int.not_lt, Int.not_le, ne_eq] at *)
  all_goals (try dsimp only [Ty.den, Ty.dflt, RgT] at *)
  all_goals (try simp only [eq4, ne4, eq3, ne3, eq2, ne2, Prod.eta, List.length_cons, List.length_nil, List.length_append, Nat.zero_add] at *)
  all_goals (try simp (disch := omega) only [wrap64] at *)
  all_goals try first | exact leafDraw (by kernel_rfl) | exact Leaf.mk trivial | (refine Leaf.mk ?_; omega) | (refine Leaf.mk ?_; unfold maxLen; omega)
  all_goals first
    | (rw [drop_end (by omega)] at he; exact Leaf.mk (ret1 he.symm))
    | (rw [drop_at rg0 (by omega), idxF, if_pos (by assumption)] at he; exact Leaf.mk (ret1 he.symm))
    | (rw [drop_at rg0 (by omega), idxF, if_neg (by simp_all)] at he; exact Leaf.mk ⟨i + 1, rfl, ⟨by omega, he⟩, by omega⟩)
def sContainsR : PSpec := ⟨[.d (.slice RgT), .lam RgT .bool], [⟨false, [.d .bool]⟩], fun _ => True, fun x => ((List.any x.1 x.2.1, ()), ())⟩
theorem fContainsR : FnOk Try.prog 56 := ⟨_, Try.func56, by decide, rfl⟩
theorem pContainsR : PSound Try.prog 56 sContainsR := by
  refine psound (T := tab) (S := (spOf [(79, sIndexFuncR.spec (lsOf []))])) (keep := k56) (by kernel_rfl) tabOk (spCons (pOk pIndexFuncR fIndexFuncR (by decide) lsNil) spNil) (by kernel_rfl) Try.func56 (by kernel_rfl) (by decide) fun xs hg hp => ?_
  obtain ⟨xs, p, ⟨⟩⟩ := xs
  change List Rg at xs
  change Rg → Bool at p
  show vfun tab _ k56 Try.f56 [.sl RgT xs, .lam RgT .bool p] [] _
  refine Ev.out ?_
  repeat' (first | ((with_reducible refine Ev.mk ?_); conv => whnf) | (with_reducible refine And.intro ?_ ?_) | (intro h))
  · exact Leaf.mk trivial
  · exact Leaf.mk (ret1 (idxF_any xs 0))
def lHasX : LSpec := ⟨RgT, .bool, [.bx .str], fun r c => inRg r c.1⟩
theorem fHasX : FnOk Try.prog 57 := ⟨_, Try.func57, by decide, rfl⟩
theorem pHasX : PSound Try.prog 57 lHasX.p := by
  refine psound (T := tab) (S := (spOf [(58, sHasR1.spec (lsOf []))])) (keep := k57) (by kernel_rfl) tabOk (spCons (pOk pHasR1 fHasR1 (by decide) lsNil) spNil) (by kernel_rfl) Try.func57 (by kernel_rfl) (by decide) fun xs hg hp => ?_
  obtain ⟨⟨lo, hi⟩, k, ⟨⟩⟩ := xs
  change List UInt8 at lo hi k
  show vfun tab _ k57 Try.f57 [.agg [.s lo, .s hi], .rp [.s k]] [] _
  refine Ev.out ?_
  repeat' (first | ((with_reducible refine Ev.mk ?_); conv => whnf) | (with_reducible refine And.intro ?_ ?_) | (intro h))
  all_goals first | exact Leaf.mk trivial | exact Leaf.mk rfl
def sHasA : PSpec := ⟨[.d RgsT, .d .str], [⟨false, [.d .bool]⟩], fun _ => True, fun x => ((hasRg x.1 x.2.1, ()), ())⟩
theorem fHasA : FnOk Try.prog 28 := ⟨_, Try.func28, by decide, rfl⟩
theorem pHasA : PSound Try.prog 28 sHasA := by
  refine psound (T := tab) (S := (spOf [(56, sContainsR.spec (lsOf [(57, lHasX)]))])) (keep := k28) (by kernel_rfl) tabOk (spCons (pOk pContainsR fContainsR (by decide) ((lsCons ⟨pHasX, fHasX⟩ lsNil))) spNil) (by kernel_rfl) Try.func28 (by kernel_rfl) (by decide) fun xs hg hp => ?_
  obtain ⟨l, k, ⟨⟩⟩ := xs
  change List Rg at l
  change List UInt8 at k
  show vfun tab _ k28 Try.f28 [.sl RgT l, .s k] [] _
  refine Ev.out ?_
  repeat' (first | ((with_reducible refine Ev.mk ?_); conv => whnf) | (with_reducible refine And.intro ?_ ?_) | (intro h))
  all_goals first | exact Leaf.mk trivial | exact Leaf.mk rfl
def badR (l : List Rg) (i : Nat) : Bool := emptyR (l.getD i rg0) || (decide (0 < i) && (endR (l.getD (i - 1) rg0) || !sless (l.getD (i - 1) rg0).2 (l.getD i rg0).1))
def plainB (l : List Rg) : Bool := (List.range l.length).all fun i => !badR l i
def chkR (l : List Rg) : Int := if plainB l = true then 0 else 12
theorem plainB_no {l : List Rg} {i : Nat} (hi : i < l.length) (h : badR l i = true) : (12 : Int) = chkR l := by
  unfold chkR
  rw [if_neg]
  intro hc
  have := List.all_eq_true.1 hc i (List.mem_range.2 hi)
  rw [h] at this; cases this
theorem plainB_yes {l : List Rg} (h : ∀ i, i < l.length → badR l i = false) : (0 : Int) = chkR l := by
  unfold chkR
  rw [if_pos]
  exact List.all_eq_true.2 fun i hi => by rw [h i (List.mem_range.1 hi)]; rfl
theorem badR_next {l : List Rg} {i : Nat} (ha : ∀ j, j < i → badR l j = false) (h : badR l i = false) : ∀ j, j < i + 1 → badR l j = false := fun j hj => by
  rcases Nat.lt_or_ge j i with h1 | h1
  · exact ha j h1
  · obtain rfl : j = i := by omega
    exact h
def sCheckA : PSpec := ⟨[.d RgsT], [⟨false, [.d (.int .i64)]⟩], fun _ => True, fun x => ((chkR x.1, ()), ())⟩
theorem fCheckA : FnOk Try.prog 30 := ⟨_, Try.func30, by decide, rfl⟩
theorem pCheckA : PSound Try.prog 30 sCheckA := by
  refine psound (T := tab) (S := (spOf [(40, sEmpty.spec (lsOf [])), (41, sEndless.spec (lsOf []))])) (keep := k30) (by kernel_rfl) tabOk (spCons (pOk pEmpty fEmpty (by decide) lsNil) (spCons (pOk pEndless fEndless (by decide) lsNil) spNil)) (by kernel_rfl) Try.func30 (by kernel_rfl) (by decide) fun xs hg hp => ?_
  obtain ⟨l, ⟨⟩⟩ := xs
  obtain ⟨⟨hl, -⟩, -⟩ := hg
  change List Rg at l
  change l.length ≤ _ at hl
  have hl := len63 hl
  clear hp
  show vfun tab _ k30 Try.f30 [.sl RgT l] [] _
  refine Ev.out ?_
  repeat' (first | ((with_reducible refine Ev.mk ?_); conv => whnf) | (with_reducible refine And.intro ?_ ?_) | (intro h))
  all_goals (try simp only [decide_eq_true_eq, decide_eq_false_iff_not, beq_iff_eq, bne_iff_ne, beq_eq_false_iff_ne, bne_eq_false_iff_eq, Int.toNat_natCast, ge_iff_le, gt_iff_lt, Bool.not_eq_true', Bool.not_eq_false', Int.not_lt, Int.not_le, ne_eq] at *)
  all_goals (try dsimp only [Ty.den, Ty.dflt, RgT] at *)
  all_goals (try simp only [eq4, ne4, eq3, ne3, eq2, ne2, Prod.eta, List.length_cons, List.length_nil, List.length_append, Nat.zero_add] at *)
  all_goals (try simp (disch := omega) only [wrap64] at *)
  all_goals try first | exact leafDraw (by kernel_rfl) | exact Leaf.mk trivial | (refine Leaf.mk ?_; omega) | (refine Leaf.mk ?_; unfold maxLen; omega)
  refine LoopVC.on (fun i : Nat => [(7, .i .i64 i)]) (fun _ => []) (fun i => i ≤ l.length ∧ ∀ j, j < i → badR l j = false) (fun i => l.length - i) 0 rfl ⟨by omega, fun j hj => by omega⟩ ?_
  intro i ⟨hi, ha⟩
  repeat' (first | ((with_reducible refine Ev.mk ?_); conv => whnf) | (with_reducible refine And.intro ?_ ?_) | (intro h))
  all_goals (try simp only [decide_eq_true_eq, decide_eq_false_iff_not, beq_iff_eq, bne_iff_ne, beq_eq_false_iff_ne, bne_eq_false_iff_eq, Int.toNat_natCast, ge_iff_le, gt_iff_lt, Bool.not_eq_true', Bool.not_eq_false', Int.not_lt, Int.not_le, ne_eq] at *)
  all_goals (try dsimp only [Ty.den, Ty.dflt, RgT, sEmpty, sEndless] at *)
  all_goals (try simp only [eq4, ne4, eq3, ne3, eq2, ne2, Prod.eta, List.length_cons, List.length_nil, List.length_append, Nat.zero_add] at *)
  all_goals (try simp (disch := omega) only [wrap64] at *)
  all_goals try first | exact leafDraw (by kernel_rfl) | exact Leaf.mk trivial | (refine Leaf.mk ?_; omega) | (refine Leaf.mk ?_; unfold maxLen; omega)
  all_goals
    have hi1 : ((i : Int) - 1).toNat = i - 1 := by omega
    try simp only [hi1] at *
  all_goals first
    | exact Leaf.mk (ret1 (show (0 : Int) = chkR l from plainB_yes fun j hj => ha j (by omega)))
    | (refine Leaf.mk (ret1 (show (12 : Int) = chkR l from plainB_no (i := i) (by omega) ?_)); clear ha; simp_all [badR, endR, emptyR, rg0]; done)
    | (refine Leaf.mk ⟨i + 1, rfl, ⟨by omega, badR_next ha ?_⟩, by omega⟩; clear ha; simp_all [badR, endR, emptyR, rg0]; done)
    | (refine Leaf.mk (ret1 (show (12 : Int) = chkR l from plainB_no (i := i) (by omega) ?_)); clear ha; simp_all [badR, endR, emptyR, rg0])
theorem same_notR {α : Type} [DecidableEq α] (d : α) {xs ys : List α} {i : Nat} (h : ¬ xs.getD i d = ys.getD i d) : ¬ xs = ys := fun hc => h (by rw [hc])
theorem same_stepR {α : Type} (d : α) {xs ys : List α} {i : Nat} (h : i < xs.length) (he : xs.take i = ys.take i) (h2 : i < ys.length) (hd : xs.getD i d = ys.getD i d) : xs.take (i + 1) = ys.take (i + 1) := by
  rw [take_at d h, take_at d h2, he, hd]
theorem same_endR {α : Type} {xs ys : List α} {i : Nat} (h : xs.length ≤ i) (he : xs.take i = ys.take i) (h2 : ys.length ≤ i) : xs = ys := by
  rwa [List.take_of_length_le h, List.take_of_length_le h2] at he
def sameR (a b : List Rg) : Bool := decide (a = b)
def sEqualR : PSpec := ⟨[.d RgsT, .d RgsT], [⟨false, [.d .bool]⟩], fun _ => True, fun x => ((sameR x.1 x.2.1, ()), ())⟩
theorem fEqualR : FnOk Try.prog 62 := ⟨_, Try.func62, by decide, rfl⟩
theorem pEqualR : PSound Try.prog 62 sEqualR := by
  refine psound (T := tab) (S := (spOf [])) (keep := k62) (by kernel_rfl) tabOk spNil (by kernel_rfl) Try.func62 (by kernel_rfl) (by decide) fun xs hg hp => ?_
  obtain ⟨xs, ys, ⟨⟩⟩ := xs
  obtain ⟨⟨hl, -⟩, ⟨hl2, -⟩, -⟩ := hg
  have hl := len63 hl
  have hl2 := len63 hl2
  change List Rg at xs ys
  change xs.length ≤ _ at hl
  change ys.length ≤ _ at hl2
  clear hp
  show vfun tab _ k62 Try.f62 [.sl RgT xs, .sl RgT ys] [] _
  refine Ev.out ?_
  repeat' (first | ((with_reducible refine Ev.mk ?_); conv => whnf) | (with_reducible refine And.intro ?_ ?_) | (intro h))
  all_goals (try simp only [decide_eq_true_eq, decide_eq_false_iff_not, beq_iff_eq, bne_iff_ne, beq_eq_false_iff_ne, bne_eq_false_iff_eq, Int.toNat_natCast, ge_iff_le, gt_iff_lt, Bool.not_eq_true', Bool.not_eq_false', Int.not_lt, Int.not_le, ne_eq] at *)
  all_goals (try dsimp only [Ty.den, Ty.dflt, RgT] at *)
  all_goals (try simp only [eq4, ne4, eq3, ne3, eq2, ne2, Prod.eta, List.length_cons, List.length_nil, List.length_append, Nat.zero_add] at *)
  all_goals (try simp (disch := omega) only [wrap64] at *)
  all_goals try first | exact leafDraw (by kernel_rfl) | exact Leaf.mk trivial | (refine Leaf.mk ?_; omega) | (refine Leaf.mk ?_; unfold maxLen; omega)
  · refine Leaf.mk (ret1 (show false = sameR xs ys from ?_))
    rw [sameR, eq_comm, decide_eq_false_iff_not]; intro hc; subst hc; omega
  refine LoopVC.on (fun i : Nat => [(13, .i .i64 i)]) (fun _ => []) (fun i => i ≤ xs.length ∧ xs.take i = ys.take i) (fun i => xs.length - i) 0 rfl ⟨by omega, by simp⟩ ?_
  intro i ⟨hi, he⟩
  repeat' (first | ((with_reducible refine Ev.mk ?_); conv => whnf) | (with_reducible refine And.intro ?_ ?_) | (intro h))
  all_goals (try simp only [decide_eq_true_eq, decide_eq_false_iff_not, beq_iff_eq, bne_iff_ne, beq_eq_false_iff_ne, bne_eq_false_iff_eq, Int.toNat_natCast, ge_iff_le, gt_iff_lt, Bool.not_eq_true', Bool.not_eq_false', Int.not_lt, Int.not_le, ne_eq] at *)
  all_goals (try dsimp only [Ty.den, Ty.dflt, RgT] at *)
  all_goals (try simp only [eq4, ne4, eq3, ne3, eq2, ne2, Prod.eta, List.length_cons, List.length_nil, List.length_append, Nat.zero_add] at *)
  all_goals (try simp (disch := omega) only [wrap64] at *)
  all_goals try first | exact leafDraw (by kernel_rfl) | exact Leaf.mk trivial | (refine Leaf.mk ?_; omega) | (refine Leaf.mk ?_; unfold maxLen; omega)
  all_goals first
    | exact Leaf.mk (ret1 (show false = decide (xs = ys) by rw [eq_comm, decide_eq_false_iff_not]; exact same_notR rg0 h))
    | exact Leaf.mk ⟨i + 1, rfl, ⟨by omega, same_stepR rg0 (by omega) he (by omega) h⟩, by omega⟩
    | exact Leaf.mk (ret1 (show true = decide (xs = ys) by rw [eq_comm, decide_eq_true_eq]; exact same_endR (by omega) he (by omega)))
def sSameA : PSpec := sEqualR
theorem fSameA : FnOk Try.prog 34 := ⟨_, Try.func34, by decide, rfl⟩
theorem pSameA : PSound Try.prog 34 sSameA := by
  refine psound (T := tab) (S := (spOf [(62, sEqualR.spec (lsOf []))])) (keep := k34) (by kernel_rfl) tabOk (spCons (pOk pEqualR fEqualR (by decide) lsNil) spNil) (by kernel_rfl) Try.func34 (by kernel_rfl) (by decide) fun xs hg hp => ?_
  obtain ⟨a, b, ⟨⟩⟩ := xs
  change List Rg at a b
  show vfun tab _ k34 Try.f34 [.sl RgT a, .sl RgT b] [] _
  refine Ev.out ?_
  repeat' (first | ((with_reducible refine Ev.mk ?_); conv => whnf) | (with_reducible refine And.intro ?_ ?_) | (intro h))
  all_goals first | exact Leaf.mk trivial | exact Leaf.mk rfl
end Go.Proofs.Ytbobjiaggngbmaa

namespace Go.Proofs.Ytbobjiaggngbmaa
open Go.Proofs Go.Shelf
def laySortF_ren : Go.Shelf.Ren := ⟨fun | 6 => 64 | 15 => 82 | 14 => 81 | 28 => 95 | 29 => 96 | 20 => 87 | 21 => 88 | 22 => 89 | 23 => 90 | 24 => 91 | 25 => 92 | 26 => 93 | 27 => 94 | 46 => 98 | 47 => 99 | 48 => 100 | 49 => 101 | 50 => 102 | 57 => 103 | n => n, fun | 22 => 27 | 24 => 29 | 25 => 67 | 3 => 3 | 39 => 114 | 0 => 0 | 53 => 126 | 55 => 70 | 4 => 4 | 46 => 119 | 45 => 118 | 50 => 123 | 5 => 5 | 9 => 9 | 66 => 127 | 70 => 131 | 76 => 133 | 77 => 134 | n => n, fun | n => n⟩
theorem laySortF : Go.Proofs.SlLaysF0.n6 Try.prog laySortF_ren := {
  mixed := by kernel_rfl
  f6 := ⟨Try.f64.name, by decide, Try.func64.trans (congrArg some (by kernel_rfl))⟩
  f14 := ⟨Try.f81.name, by decide, Try.func81.trans (congrArg some (by kernel_rfl))⟩
  f15 := Try.func82.trans (congrArg some (by kernel_rfl))
  f20 := ⟨Try.f87.name, by decide, Try.func87.trans (congrArg some (by kernel_rfl))⟩
  f21 := ⟨Try.f88.name, by decide, Try.func88.trans (congrArg some (by kernel_rfl))⟩
  f22 := ⟨Try.f89.name, by decide, Try.func89.trans (congrArg some (by kernel_rfl))⟩
  f23 := ⟨Try.f90.name, by decide, Try.func90.trans (congrArg some (by kernel_rfl))⟩
  f24 := ⟨Try.f91.name, by decide, Try.func91.trans (congrArg some (by kernel_rfl))⟩
  f25 := ⟨Try.f92.name, by decide, Try.func92.trans (congrArg some (by kernel_rfl))⟩
  f26 := ⟨Try.f93.name, by decide, Try.func93.trans (congrArg some (by kernel_rfl))⟩
  f27 := ⟨Try.f94.name, by decide, Try.func94.trans (congrArg some (by kernel_rfl))⟩
  f28 := Try.func95.trans (congrArg some (by kernel_rfl))
  f29 := Try.func96.trans (congrArg some (by kernel_rfl))
  f46 := ⟨Try.f98.name, by decide, Try.func98.trans (congrArg some (by kernel_rfl))⟩
  f47 := Try.func99.trans (congrArg some (by kernel_rfl))
  f48 := Try.func100.trans (congrArg some (by kernel_rfl))
  f49 := ⟨Try.f101.name, by decide, Try.func101.trans (congrArg some (by kernel_rfl))⟩
  f50 := ⟨Try.f102.name, by decide, Try.func102.trans (congrArg some (by kernel_rfl))⟩
  f57 := ⟨Try.f103.name, by decide, Try.func103.trans (congrArg some (by kernel_rfl))⟩
  t0 := Try.underlying0
  a0 := Try.isAgg0
  z0 := Try.sizeOf0
  v0 := Try.zeroValue0
  t3 := Try.underlying3
  a3 := Try.isAgg3
  z3 := Try.sizeOf3
  v3 := Try.zeroValue3
  t4 := Try.underlying4
  a4 := Try.isAgg4
  z4 := Try.sizeOf4
  v4 := Try.zeroValue4
  t5 := Try.underlying5
  a5 := Try.isAgg5
  z5 := Try.sizeOf5
  v5 := Try.zeroValue5
  t9 := Try.underlying9
  a9 := Try.isAgg9
  z9 := Try.sizeOf9
  v9 := Try.zeroValue9
  t22 := Try.underlying27
  a22 := Try.isAgg27
  z22 := Try.sizeOf27
  v22 := Try.zeroValue27
  t25 := Try.underlying67
  a25 := Try.isAgg67
  z25 := Try.sizeOf67
  v25 := Try.zeroValue67
  t39 := Try.underlying114
  a39 := Try.isAgg114
  z39 := Try.sizeOf114
  v39 := Try.zeroValue114
  t45 := Try.underlying118
  a45 := Try.isAgg118
  z45 := Try.sizeOf118
  v45 := Try.zeroValue118
  t46 := Try.underlying119
  a46 := Try.isAgg119
  z46 := Try.sizeOf119
  v46 := Try.zeroValue119
  t50 := Try.underlying123
  a50 := Try.isAgg123
  z50 := Try.sizeOf123
  v50 := Try.zeroValue123
  t53 := Try.underlying126
  a53 := Try.isAgg126
  z53 := Try.sizeOf126
  v53 := Try.zeroValue126
  t55 := Try.underlying70
  a55 := Try.isAgg70
  z55 := Try.sizeOf70
  v55 := Try.zeroValue70
  t66 := Try.underlying127
  a66 := Try.isAgg127
  z66 := Try.sizeOf127
  v66 := Try.zeroValue127
  t70 := Try.underlying131
  a70 := Try.isAgg131
  z70 := Try.sizeOf131
  v70 := Try.zeroValue131
  t76 := Try.underlying133
  a76 := Try.isAgg133
  z76 := Try.sizeOf133
  v76 := Try.zeroValue133
  t77 := Try.underlying134
  a77 := Try.isAgg134
  z77 := Try.sizeOf134
  v77 := Try.zeroValue134 }
end Go.Proofs.Ytbobjiaggngbmaa

set_option linter.unusedVariables false
set_option linter.unusedSimpArgs false
set_option maxRecDepth 8000
set_option maxHeartbeats 4000000
namespace Go.Proofs.Ytbobjiaggngbmaa
open Go.Eng
theorem cmpB_lt : ∀ (a b : List UInt8), Lib.compareBytes a b < 0 ↔ a < b
  | [], [] => by simp [Lib.compareBytes]
  | [], _ :: _ => by simp [Lib.compareBytes]
  | _ :: _, [] => by simp [Lib.compareBytes]
  | a :: r, b :: s => by
    have ih := cmpB_lt r s
    rw [Lib.compareBytes, List.cons_lt_cons_iff, ← ih]
    by_cases h1 : a < b
    · simp [h1]
    · by_cases h2 : b < a
      · have h3 : ¬ a = b := fun hc => by rw [hc] at h2; exact absurd h2 (by simp [UInt8.lt_iff_toNat_lt])
        simp [h1, h2, h3]
      · have h3 : a = b := by rw [UInt8.lt_iff_toNat_lt] at h1 h2; rw [← UInt8.toNat_inj]; omega
        subst h3
        simp [h1]
theorem ltR_iff (x y : Rg) : ltOf cmpR x y = true ↔ x.1 < y.1 := by
  unfold ltOf cmpR
  rw [decide_eq_true_iff, cmpB_lt]
theorem ltR_not (x y : Rg) : ltOf cmpR x y = false ↔ ¬ x.1 < y.1 := by
  rw [← ltR_iff, Bool.not_eq_true]
theorem swoR : Go.Sort.SWO (ltOf cmpR) where
  irrefl x := by rw [ltR_not]; exact slt_irrefl _
  trans x y z h1 h2 := by rw [ltR_iff] at *; exact slt_trans h1 h2
  ntrans x y z h1 h2 := by rw [ltR_not] at *; exact sle_trans h2 h1
instance : Inhabited Rg := ⟨rg0⟩
instance : Inhabited (Ty.den RgT) := ⟨rg0⟩
def srtR (l : List Rg) : List Rg := srtF cmpR l
theorem srtR_perm (l : List Rg) : (srtR l).Perm l := (srtF_ok swoR l).1
theorem srtR_len (l : List Rg) : (srtR l).length = l.length := (srtR_perm l).length_eq
theorem srtR_sorted (l : List Rg) : (srtR l).Pairwise fun x y => ¬ y.1 < x.1 := (srtF_ok swoR l).2.imp fun {x y} h => (ltR_not y x).1 h
noncomputable def iSortFR : Eng.Spec := sortFSpec 38 RgT srtR
theorem fSortFR : FnOk Try.prog 64 := ⟨_, Try.func64, by decide, rfl⟩
theorem pSortFR : SpecOk Try.prog 64 iSortFR :=
  sortFSpec_ok (e := RgT) (enc := encR) (fun w F x cs h => by
      obtain ⟨c1, r1, rfl, ⟨rfl, -⟩, ⟨rfl, -⟩⟩ := h
      rfl) (fun x => rfl) srtR_perm
    (fun p cap w => AnyF.slices_SortFunc_none { laySortF with } p cap _ w)
    (fun blk off cap xs w hH hb hl => by
      have h := AnyQ.slices_SortFunc_eq laySortF 2 Try.isAgg29 Try.sizeOf29 encR (fun _ => rfl) (fun x v hv => by
        simp only [encR, List.mem_cons, List.not_mem_nil, or_false] at hv
        rcases hv with rfl | rfl <;> rfl) cmpR swoR 38 #[] blk off cap xs.toArray w (enters_of Try.func38 (by kernel_rfl) rfl)
        (fun m os dk hs x y => plain1_w x y _) hH hb hl
      refine h.mono ?_
      rintro e' w' ⟨rfl, n, os, rfl⟩
      refine ⟨rfl, n, os, ?_⟩
      rfl)
def sCollectR : PSpec := ⟨[.fb 65 (.slice RgT)], [⟨false, [.o 29 RgT]⟩], fun x => List.length x.1 ≤ 100000, fun x => ((x.1, ()), ())⟩
theorem fCollectR : FnOk Try.prog 63 := ⟨_, Try.func63, by decide, rfl⟩
theorem pCollectR : PSound Try.prog 63 sCollectR := by
  refine psound (T := tab) (S := (spOf [(80, sAppSeq.spec (lsOf []))])) (keep := k63) (by kernel_rfl) tabOk (spCons (pOk pAppSeq fAppSeq (by decide) lsNil) spNil) (by kernel_rfl) Try.func63 (by kernel_rfl) (by decide) fun xs hg hp => ?_
  obtain ⟨l, ⟨⟩⟩ := xs
  change List Rg at l
  clear hg
  change l.length ≤ 100000 at hp
  show vfun tab _ k63 Try.f63 [.fn 65 [.rp [.sl RgT l]]] [] _
  refine Ev.out ?_
  repeat' (first | ((with_reducible refine Ev.mk ?_); conv => whnf) | (with_reducible refine And.intro ?_ ?_) | (intro h))
  all_goals first | exact Leaf.mk hp | exact Leaf.mk rfl
def sSortedFR : PSpec := ⟨[.fb 65 (.slice RgT), .f0 38], [⟨false, [.o 29 RgT]⟩], fun x => List.length x.1 ≤ 100000, fun x => ((srtR x.1, ()), ())⟩
theorem fSortedFR : FnOk Try.prog 36 := ⟨_, Try.func36, by decide, rfl⟩
theorem pSortedFR : PSound Try.prog 36 sSortedFR := by
  refine psound (T := tab) (S := (spOf [(63, sCollectR.spec (lsOf [])), (64, iSortFR)])) (keep := k36) (by kernel_rfl) tabOk (spCons (pOk pCollectR fCollectR (by decide) lsNil) (spCons (.inl ⟨pSortFR, fSortFR⟩) spNil)) (by kernel_rfl) Try.func36 (by kernel_rfl) (by decide) fun xs hg hp => ?_
  obtain ⟨l, ⟨⟩, ⟨⟩⟩ := xs
  change List Rg at l
  clear hg
  change l.length ≤ 100000 at hp
  show vfun tab _ k36 Try.f36 [.fn 65 [.rp [.sl RgT l]], .fn 38 []] [] _
  refine Ev.out ?_
  repeat' (first | ((with_reducible refine Ev.mk ?_); conv => whnf) | (with_reducible refine And.intro ?_ ?_) | (intro h))
  all_goals first
    | exact Leaf.mk hp
    | exact Leaf.mk (show l.length < 4611686018427387904 by omega)
    | exact Leaf.mk (ret1 rfl)
theorem fValuesR : FnOk Try.prog 37 := ⟨_, Try.func37, by decide, rfl⟩
noncomputable def iValuesR : Eng.Spec := inl tab (spOf []) k37 Try.f37
theorem pValuesR : SpecOk Try.prog 37 iValuesR := inl_ok tabOk spNil (by kernel_rfl) Try.func37 (by kernel_rfl)
end Go.Proofs.Ytbobjiaggngbmaa

set_option linter.unusedVariables false
set_option linter.unusedSimpArgs false
set_option maxRecDepth 8000
set_option maxHeartbeats 4000000
namespace Go.Proofs.Ytbobjiaggngbmaa
open Go.Eng
theorem last_at {O : List Rg} (h : 0 < O.length) : O.getLast? = some (O.getD (O.length - 1) rg0) := by
  rw [List.getLast?_eq_getElem?, List.getD_eq_getElem?_getD, List.getElem?_eq_getElem (by omega)]; rfl
theorem set_last {O : List Rg} (h : 0 < O.length) (q : Rg) : O.set (O.length - 1) q = O.dropLast ++ [q] := by
  have hne : O ≠ [] := by rintro rfl; simp at h
  obtain ⟨o, x, rfl⟩ : ∃ o x, O = o ++ [x] := ⟨_, _, (List.dropLast_concat_getLast hne).symm⟩
  rw [List.dropLast_concat, List.length_append, List.length_singleton, Nat.add_sub_cancel, List.set_append_right _ _ (Nat.le_refl _), Nat.sub_self]
  rfl
theorem set_self {O : List Rg} (h : 0 < O.length) : O.dropLast ++ [O.getD (O.length - 1) rg0] = O := by
  have hne : O ≠ [] := by rintro rfl; simp at h
  have h1 : O.getD (O.length - 1) rg0 = O.getLast hne := by
    have := last_at h
    rw [List.getLast?_eq_some_getLast hne, Option.some.injEq] at this
    exact this.symm
  rw [h1, List.dropLast_concat_getLast]
theorem stepP_empty {O : List Rg} {r : Rg} (h : emptyR r = true) : stepP O r = O := by unfold stepP; rw [if_pos h]
theorem stepP_first {O : List Rg} {r : Rg} (h : emptyR r = false) (h0 : O.length = 0) : stepP O r = O ++ [r] := by
  obtain rfl := List.eq_nil_of_length_eq_zero h0
  unfold stepP
  rw [if_neg (by rw [h]; simp)]
  rfl
theorem stepP_some {O : List Rg} {r : Rg} (h : emptyR r = false) (h0 : 0 < O.length) : stepP O r = if ¬ (O.getD (O.length - 1) rg0).2 = [] ∧ (O.getD (O.length - 1) rg0).2 < r.1 then O ++ [r] else O.dropLast ++ [joinR (O.getD (O.length - 1) rg0) r] := by
  unfold stepP
  rw [if_neg (by rw [h]; simp), last_at h0]
theorem endR_no {r : Rg} (h : endR r = false) : ¬ r.2 = [] := by unfold endR at h; simpa using h
theorem endR_yes {r : Rg} (h : endR r = true) : r.2 = [] := by unfold endR at h; simpa using h
theorem stepP_new {O : List Rg} {r : Rg} (h : emptyR r = false) (h0 : 0 < O.length) (he : endR (O.getD (O.length - 1) rg0) = false) (hs : sless (O.getD (O.length - 1) rg0).2 r.1 = true) : stepP O r = O ++ [r] := by
  rw [stepP_some h h0, if_pos ⟨endR_no he, sless_iff.1 hs⟩]
theorem stepP_keep {O : List Rg} {r : Rg} (h : emptyR r = false) (h0 : 0 < O.length) (he : endR (O.getD (O.length - 1) rg0) = true) : stepP O r = O := by
  rw [stepP_some h h0, if_neg (fun hc => hc.1 (endR_yes he)), joinR, if_pos (endR_yes he), set_self h0]
theorem stepP_end {O : List Rg} {r : Rg} (h : emptyR r = false) (h0 : 0 < O.length) (he : endR (O.getD (O.length - 1) rg0) = false) (hs : sless (O.getD (O.length - 1) rg0).2 r.1 = false) (hr : endR r = true) : stepP O r = O.set (O.length - 1) ((O.getD (O.length - 1) rg0).1, []) := by
  rw [stepP_some h h0, if_neg (fun hc => by rw [sless_iff.2 hc.2] at hs; cases hs), joinR, if_neg (endR_no he), if_pos (endR_yes hr), set_last h0]
theorem stepP_max {O : List Rg} {r : Rg} (h : emptyR r = false) (h0 : 0 < O.length) (he : endR (O.getD (O.length - 1) rg0) = false) (hs : sless (O.getD (O.length - 1) rg0).2 r.1 = false) (hr : endR r = false) {inst : Decidable (sless (O.getD (O.length - 1) rg0).2 r.2 = false)} :
    stepP O r = O.set (O.length - 1) ((O.getD (O.length - 1) rg0).1, @ite _ (sless (O.getD (O.length - 1) rg0).2 r.2 = false) inst (O.getD (O.length - 1) rg0).2 r.2) := by
  rw [stepP_some h h0, if_neg (fun hc => by rw [sless_iff.2 hc.2] at hs; cases hs), joinR, if_neg (endR_no he), if_neg (endR_no hr), set_last h0, maxS]
  by_cases hq : sless (O.getD (O.length - 1) rg0).2 r.2 = true
  · rw [if_pos hq, if_neg (by rw [hq]; simp)]
  · rw [if_neg hq, if_pos (by simpa using hq)]
theorem stepP_len (O : List Rg) (r : Rg) : (stepP O r).length ≤ O.length + 1 := by
  unfold stepP
  split
  · omega
  · split
    · simp
    · split <;> simp <;> omega
theorem foldP_len : ∀ (s O : List Rg), (s.foldl stepP O).length ≤ O.length + s.length
  | [], O => by simp
  | r :: s, O => by
    have h1 := foldP_len s (stepP O r)
    have h2 := stepP_len O r
    rw [List.foldl_cons, List.length_cons]; omega
theorem foldP_ok : ∀ (s done O : List Rg), PlOk O done s → (s.Pairwise fun x y => ¬ y.1 < x.1) → PlOk (s.foldl stepP O) (done ++ s) []
  | [], done, O, h, _ => by rw [List.append_nil]; exact h
  | r :: s, done, O, h, hs => by
    have h1 := foldP_ok s (done ++ [r]) (stepP O r) (stepP_ok h (List.pairwise_cons.1 hs).1) (List.pairwise_cons.1 hs).2
    rw [List.append_assoc] at h1
    exact h1
def sPlainA : PSpec := ⟨[.d RgsT], [⟨false, [.o 29 RgT]⟩], fun x => List.length x.1 ≤ 100000, fun x => ((madeR x.1 [] 0, ()), ())⟩
theorem fPlainA : FnOk Try.prog 12 := ⟨_, Try.func12, by decide, rfl⟩
theorem pPlainA : PSound Try.prog 12 sPlainA := by
  refine psoundJ (T := tab) (S := (spOf [(37, iValuesR), (36, sSortedFR.spec (lsOf [])), (40, sEmpty.spec (lsOf [])), (41, sEndless.spec (lsOf []))])) (keep := k12) 3 0 [3, 4, 5] (by kernel_rfl) tabOk (spCons (.inl ⟨pValuesR, fValuesR⟩) (spCons (pOk pSortedFR fSortedFR (by decide) lsNil) (spCons (pOk pEmpty fEmpty (by decide) lsNil) (spCons (pOk pEndless fEndless (by decide) lsNil) spNil)))) (by kernel_rfl) Try.func12 rfl rfl rfl (by kernel_rfl) (by kernel_rfl) (by kernel_rfl) (by decide) fun xs hg hp => ?_
  obtain ⟨l, ⟨⟩⟩ := xs
  change List Rg at l
  clear hg
  change l.length ≤ 100000 at hp
  change vc _ _ _ _ ⟨[(0, .sl RgT l)], []⟩ _
  refine Ev.out ?_
  repeat' (first | ((with_reducible refine Ev.mk ?_); conv => whnf) | (with_reducible refine And.intro ?_ ?_) | (intro h))
  · exact Leaf.mk hp
  have hSl := srtR_len l
  have hSp := srtR_perm l
  have hSs := srtR_sorted l
  show LoopVC _ _ ⟨_, [(0, .arr 29 RgT (srtR l))]⟩ _
  generalize srtR l = s at *
  refine LoopVC.weak [(.slot 4, .nil 29 RgT)] (fun i : Nat => [(5, .i .i64 i)]) (fun i => [(1, .arr 29 RgT ((s.take i).foldl stepP []))]) (fun i => i ≤ s.length) (fun i => s.length - i) 0 (Ev.mk ?_)
  (conv => whnf)
  refine ⟨Leaf.mk rfl, Leaf.mk ?_, ?_⟩
  · omega
  intro i hi
  have hat : ∀ h : i < s.length, (s.take (i + 1)).foldl stepP [] = stepP ((s.take i).foldl stepP []) (s.getD i rg0) := fun h => foldl_at rg0 h
  have hOl := foldP_len (s.take i) []
  have htl : (s.take i).length ≤ i := List.length_take_le _ _
  have hfin : s.length ≤ i → (s.take i).foldl stepP [] = madeR l [] 0 := fun h => by
    rw [take_all h]
    exact plain_made hSp (foldP_ok s [] [] (plOk_init s) hSs)
  generalize hO : (s.take i).foldl stepP [] = O at *
  rw [List.length_nil] at hOl
  have hw : IntKind.i64.wrap ((O.length : Int) - 1) = (O.length : Int) - 1 := by simp (disch := omega) only [wrap64]
  have hn : ((O.length : Int) - 1).toNat = O.length - 1 := by omega
  repeat' (first | ((with_reducible refine Ev.mk ?_); conv => whnf) | (with_reducible refine And.intro ?_ ?_) | (intro h))
  all_goals (try simp only [decide_eq_true_eq, decide_eq_false_iff_not, beq_iff_eq, bne_iff_ne, beq_eq_false_iff_ne, bne_eq_false_iff_eq, Int.toNat_natCast, ge_iff_le, gt_iff_lt, Bool.not_eq_true', Bool.not_eq_false', Int.not_lt, Int.not_le, ne_eq] at *)
  all_goals (try dsimp only [Ty.den, Ty.dflt, RgT, sEmpty, sEndless] at *)
  all_goals (try simp only [eq4, ne4, eq3, ne3, eq2, ne2, Prod.eta, List.length_cons, List.length_nil, List.length_append, Nat.zero_add] at *)
  all_goals (try simp (disch := omega) only [wrap64] at *)
  all_goals try first | exact leafDraw (by kernel_rfl) | exact Leaf.mk trivial | (refine Leaf.mk ?_; omega) | (refine Leaf.mk ?_; unfold maxLen; omega)
  all_goals try simp only [hw, hn] at *
  all_goals first
    | (refine Leaf.mk ?_; omega)
    | (refine Leaf.mk ?_; unfold maxLen; omega)
    | exact Leaf.mk (ret1 (show O = madeR l [] 0 from hfin (by omega)))
    | (exfalso; simp_all; done)
    | (refine Leaf.mk ⟨i + 1, ?_, by omega, by omega⟩
       first
       | (rw [hat (by omega), stepP_empty (by assumption)]; rfl)
       | (rw [hat (by omega), stepP_first (by assumption) (by omega)]; rfl)
       | (rw [hat (by omega), stepP_keep (by assumption) (by omega) (by assumption)]; rfl)
       | (rw [hat (by omega), stepP_new (by assumption) (by omega) (by assumption) (by assumption)]; rfl)
       | (rw [hat (by omega), stepP_end (by assumption) (by omega) (by assumption) (by assumption) (by assumption)]; rfl)
       | (rw [hat (by omega), stepP_max (by assumption) (by omega) (by assumption) (by assumption) (by assumption)]; rfl))
    | skip
end Go.Proofs.Ytbobjiaggngbmaa
