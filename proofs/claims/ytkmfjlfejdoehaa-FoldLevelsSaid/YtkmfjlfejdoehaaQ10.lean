import Derived.Test.YtkmfjlfejdoehaaQ9
import Derived.Test.YtkmfjlfejdoehaaEng6
import Derived.Test.YtkmfjlfejdoehaaQ7
import Derived.Test.YtkmfjlfejdoehaaQ8
/- Texts, one behind the other. -/
set_option linter.unusedVariables false
set_option linter.unusedSimpArgs false
set_option maxRecDepth 8000
set_option maxHeartbeats 1000000
namespace Go.Proofs.Ytkmfjlfejdoehaa
open Go.Eng Go.RowKit
def msgVal (m : Msg) : Value := msgV m.1 ⟨⟨m.2.1⟩⟩ m.2.2.1 m.2.2.2.1 m.2.2.2.2.1 ⟨⟨m.2.2.2.2.2⟩⟩
def msgA (m : Msg) : V := .agg [.i .u8 m.1, .s m.2.1, .i .i64 m.2.2.1, .i .i64 m.2.2.2.1, .b m.2.2.2.2.1, .s m.2.2.2.2.2]
theorem RV_msgA {C : Cx} {w : World} {g : Gh} {m : Msg} (h : Eng.Good MsgT m) : RV C w g (msgA m) (msgVal m) := by
  obtain ⟨h1, h2, h3, h4, h5, h6⟩ := h
  simp only [msgA, RV, RVs]
  exact ⟨[_, _, _, _, _, _], rfl, _, _, rfl, ⟨rfl, h1⟩, _, _, rfl, ⟨rfl, h2⟩, _, _, rfl, ⟨rfl, h3⟩, _, _, rfl, ⟨rfl, h4⟩, _, _, rfl, rfl, _, _, rfl, ⟨rfl, h6⟩, rfl⟩
theorem holdsM_of_rep {w : World} {F : Nat → Prop} {ms : List Msg} {sv : Value} (h : rep w F (.slice MsgT) ms [sv]) : HoldsM w F sv (ms.map msgVal) := by
  obtain ⟨A, cap, h1, h2, h3, h4, h5⟩ := h
  obtain rfl : sv = .slice A ms.length cap := by simpa using h1
  cases A with
  | none =>
    obtain rfl := h4 rfl
    obtain rfl : ms = [] := List.eq_nil_of_length_eq_zero (by omega)
    exact .inl ⟨rfl, rfl⟩
  | some ad =>
    refine .inr ⟨ad, cap, by rw [List.length_map], fun j hj => ?_⟩
    rw [List.length_map] at hj
    obtain ⟨a, ci, ha, hf, hc, hr⟩ := h5 j hj
    cases ha
    obtain ⟨c1, r1, rfl, ⟨rfl, -⟩, c2, r2, rfl, ⟨rfl, -⟩, c3, r3, rfl, ⟨rfl, -⟩, c4, r4, rfl, ⟨rfl, -⟩, c5, c6, rfl, rfl, ⟨rfl, -⟩⟩ := hr
    have hm : (ms.map msgVal)[j]? = some (msgVal ms[j]) := by rw [List.getElem?_map, List.getElem?_eq_getElem hj]; rfl
    refine ⟨hf, _, _, _, _, _, _, hm, ?_, ?_, ?_, ?_, ?_, ?_⟩
    · have := hc 0 _ rfl; exact this
    · rw [add_add]; exact hc 1 _ rfl
    · rw [add_add]; exact hc 2 _ rfl
    · rw [add_add]; exact hc 3 _ rfl
    · rw [add_add]; exact hc 4 _ rfl
    · rw [add_add]; exact hc 5 _ rfl
theorem choose_list {P : Nat → Value → Prop} : ∀ n, (∀ i, i < n → ∃ v, P i v) → ∃ vs : List Value, vs.length = n ∧ ∀ i, i < n → P i (vs[i]?.getD undef)
  | 0, _ => ⟨[], rfl, fun i hi => by omega⟩
  | n + 1, h => by
    obtain ⟨vs, h1, h2⟩ := choose_list n fun i hi => h i (by omega)
    obtain ⟨v, hv⟩ := h n (by omega)
    refine ⟨vs ++ [v], by simp [h1], fun i hi => ?_⟩
    by_cases hin : i < n
    · rw [List.getElem?_append_left (by omega)]; exact h2 i hin
    · obtain rfl : i = n := by omega
      rw [List.getElem?_append_right (by omega), h1]; simpa using hv
theorem holds_of_rep {w : World} {F : Nat → Prop} {ls : List (List Msg)} {sv : Value} (h : rep w F (.slice (.slice MsgT)) ls [sv]) :
    ∃ vs : List Value, vs.length = ls.length ∧ Holds w F sv vs ∧ (∀ i, i < vs.length → HoldsM w F (vs[i]?.getD undef) ((ls.map fun l => l.map msgVal)[i]?.getD [])) ∧ ∃ a len cap, sv = .slice a len cap := by
  obtain ⟨A, cap, h1, h2, h3, h4, h5⟩ := h
  obtain rfl : sv = .slice A ls.length cap := by simpa using h1
  cases A with
  | none =>
    obtain rfl := h4 rfl
    obtain rfl : ls = [] := List.eq_nil_of_length_eq_zero (by omega)
    exact ⟨[], rfl, .inl ⟨rfl, rfl⟩, fun i hi => by simp at hi, _, _, _, rfl⟩
  | some ad =>
    obtain ⟨vs, hl, hv⟩ := choose_list (P := fun i v => F ad.block ∧ w.cell? (ad.add i) = some v ∧ ∃ h : i < ls.length, rep w F (.slice MsgT) ls[i] [v]) ls.length fun i hi => by
      obtain ⟨a, ci, ha, hf, hc, hr⟩ := h5 i hi
      cases ha
      have hr' := hr
      obtain ⟨A', cap', e, _⟩ := hr'
      subst e
      refine ⟨_, hf, ?_, hi, hr⟩
      have := hc 0 _ rfl
      rw [show i * Ty.cells (.slice MsgT) + 0 = i from by show i * 1 + 0 = i; omega] at this
      exact this
    refine ⟨vs, hl, .inr ⟨ad, cap, by rw [hl], fun j hj => ⟨(hv j (by omega)).1, (hv j (by omega)).2.1⟩⟩, fun i hi => ?_, _, _, _, rfl⟩
    obtain ⟨_, _, hi', hr⟩ := hv i (by omega)
    have : (ls.map fun l => l.map msgVal)[i]?.getD [] = ls[i].map msgVal := by rw [List.getElem?_map, List.getElem?_eq_getElem hi']; rfl
    rw [this]
    exact holdsM_of_rep hr
theorem backs_ordL {vs : List Value} {ls : List (List Msg)} (hl : vs.length = ls.length) : (backs vs).flatMap (msOf (ls.map fun l => l.map msgVal)) = (ordL ls).map msgVal := by
  have h1 : ((List.range vs.length).map fun (i : Nat) => ((i : Int), vs[i]?.getD undef)).map (msOf (ls.map fun l => l.map msgVal)) = ls.map fun l => l.map msgVal := by
    apply List.ext_getElem
    · simp [hl]
    · intro j h1 h2
      have h3 : j < ls.length := by simpa using h2
      simp [msOf, h3]
  rw [List.flatMap_def, backs, List.map_reverse, h1, ordL, List.map_flatten, List.map_reverse]
def allNamed (ids : List Nat) : Heap → Bool
  | [] => true
  | (k, o) :: r => (!o.mut || ids.contains k) && allNamed ids r
theorem allNamed_look {ids : List Nat} : ∀ {h : Heap}, allNamed ids h = true → ∀ {id : Nat} {o : Eng.Obj}, lookN h id = some o → o.mut = true → id ∈ ids
  | [], _, _, _, hc, _ => by simp [lookN] at hc
  | (k, o') :: r, hn, id, o, hc, hm => by
    simp only [allNamed, Bool.and_eq_true] at hn
    simp only [lookN] at hc
    cases hb : Nat.beq k id
    · rw [hb] at hc; exact allNamed_look hn.2 hc hm
    · rw [hb] at hc
      simp only [Option.some.injEq] at hc
      subst hc
      obtain rfl := Nat.eq_of_beq_eq_true hb
      simpa [hm] using hn.1
theorem seq_pre {C : Cx} {N : Nat} {keep : List (Nat × List Nat)} {T : Tab} {S : Specs} (hpin : pinsOf keep = C.pins) (hT : TabOk C.P T) (hS : SpecsOk C.P S) (hmix : C.P.follows .mixedOrders = true) {x y : Code} {st st1 : St} {a : Act} {w : World} {g : Gh} {n : Nat} {Q : Exit → Act → World → Prop} (hok : codeOk N x = true)
    (hs : vc T S keep x st (roundK st1)) (r : RelT C N st a w g) (hy : ∀ a w g, RelT C N st1 a w g → y.wpIn Fence.wide n C.P Q a w) : (Code.seq x y).wpIn Fence.wide n C.P Q a w :=
  wpIn_seq (wpIn_wide.2 (vc_sound hpin hT hS hmix x st _ a w g hok hs r _ fun e s a w g hk r => by
    cases e with
    | normal => obtain rfl := Leaf.out hk; exact hy a w g r
    | exit id => exact hk.elim
    | ret => exact hk.elim
    | goto l => exact hk.elim))
structure StOk (ids : List Nat) (st : St) : Prop where
  pin : pinned ids st.heap = true
  len : ids.length ≤ st.heap.length
  map : noMap st.heap = true
  fine : fineH st.heap = true
  env : st.env.all (fun p => p.2.fine) = true
set_option maxHeartbeats 2000000 in
theorem range_ups {C : Cx} (hP : C.P = Try.prog) (hC : C.pins = ([], 0)) {N : Nat} {ids : List Nat} {keep : List (Nat × List Nat)} (hpin : pinsOf keep = (ids, ids.length)) {T : Tab} {S : Specs} (hT : TabOk C.P T) (hS : SpecsOk C.P S)
    {ls : List (List Msg)} (hls : ls.length ≤ 1000000) (hfl : ∀ l ∈ ls, l.length ≤ 1000000) (hgood : ∀ m ∈ ordL ls, Eng.Good MsgT m) {assign body : Code} {p d kb : Nat} {Q : Exit → Act → World → Prop} (hp : p < N)
    (hoa : codeOk N assign = true) (hia : inOk assign = true) (hob : codeOk N body = true) (hib : inOk body = true)
    (stI stA stB : Nat → St) {a2 : Act} {w2 : World} {g2 : Gh} {st2 : St} (r2 : RelT C N st2 a2 w2 g2)
    (hd : lookN st2.env d = some (.fn 65 [.ptr kb 0])) (hkb : lookN st2.heap kb = some (.box [.sl (.slice MsgT) ls]))
    (hn0 : allNamed ids st2.heap = true) (hst0 : (stI 0).heap = st2.heap) (hen : ∀ k, (stI k).env = (stI 0).env)
    (hE : ∀ t v, lookN (stI 0).env t = some v → lookN st2.env t = some v ∧ ∃ j, j ∈ ids ∧ v = .ptr j 0)
    (okI : ∀ k, StOk ids (stI k)) (okA : ∀ k, StOk ids (stA k)) (okB : ∀ k, StOk ids (stB k)) (hB : ∀ k, (stB k).heap = (stI (k + 1)).heap)
    (hva : ∀ k, k < (ordL ls).length → vc T S keep assign ⟨(p, msgA ((ordL ls).getD k msg0)) :: (stI k).env, (stI k).heap⟩ (roundK (stA k)))
    {kp : List Nat} (hvb : ∀ k, k < (ordL ls).length → vc T S keep body (stA k) (roundN ids kp (stB k)))
    (hQ : ∀ (E : Nat) (W : World), C.w0.heap.size ≤ E → StI C N ids g2.anch (w2.heap.size + 4) w2.heap.size (stI (ordL ls).length) a2 W → W.heap[E]? = some (.deferred (some [])) →
      Q .normal { a2 with defers := { target := .collected E, args := #[] } :: a2.defers } W) {n : Nat} :
    (Code.rangeFunc (.tmp d) #[p] assign body).wpIn Fence.wide n C.P Q a2 w2 := by
  refine wpIn_wide.2 (wpIn_wide (n := 10).1 ?_)
  -- the closure, the box of the levels, what it holds
  obtain ⟨x, hx1, hx2⟩ := r2.E d _ hd
  simp only [RV, RVs] at hx2
  obtain ⟨us, rfl, xv, xs', rfl, ⟨-, ad, had, rfl⟩, rfl⟩ := hx2
  obtain ⟨hUk, blk, us, te, hb1, hb2, hb3, -, hb5⟩ := r2.H.obj kb _ hkb
  simp only [RVs, RV] at hb3
  obtain ⟨sv, xs', rfl, hrep, rfl⟩ := hb3
  rw [had] at hb1
  obtain rfl : ad = ⟨blk, 0, none⟩ := by simpa using hb1
  obtain ⟨vs, hvl, hH, hHM, hsl⟩ := holds_of_rep hrep
  have hbs : w2.cell? ⟨blk, 0, none⟩ = some sv := by unfold World.cell?; rw [hb2]; rfl
  have hF := r2.H.F
  have hw0 := r2.H.size
  let Kx : Nat → Go.Obj → Prop := fun b o => o.isCells = false ∨ g2.F b ∨ (w2.heap.size ≤ b ∧ b < w2.heap.size + 4)
  have hup := ups_all blk sv vs (ls.map fun l => l.map msgVal) (by omega) (fun i => by
      rw [List.getElem?_map]
      cases hi : ls[i]? with
      | none => simp
      | some l => simpa using hfl l (List.mem_of_getElem? hi)) Kx (fun b o h => .inl h) w2 (fun b vs t h1 h2 => .inr (.inr ⟨h1, h2⟩)) (Array.getElem?_eq_some_iff.1 hb2).1 hbs hsl
    (by
      rcases hH with h | ⟨ad, cap, h1, h2⟩
      · exact .inl h
      · exact .inr ⟨ad, cap, h1, fun j hj => ⟨⟨hF _ (h2 j hj).1, fun o _ => .inr (.inl (h2 j hj).1)⟩, (h2 j hj).2⟩⟩)
    (fun i hi => by
      rcases hHM i hi with h | ⟨ad, cap, h1, h2⟩
      · exact .inl h
      · exact .inr ⟨ad, cap, h1, fun j hj => ⟨⟨hF _ (h2 j hj).1, fun o _ => .inr (.inl (h2 j hj).1)⟩, (h2 j hj).2⟩⟩) 9 (by omega)
  rw [backs_ordL hvl] at hup
  have hpi0 : ∀ j, j ∈ ids → ∃ o, lookN st2.heap j = some o ∧ o.mut = true := fun j hj => by
    obtain ⟨o, h1, h2⟩ := pinned_look (st := stI 0) (okI 0).pin hj
    rw [hst0] at h1; exact ⟨o, h1, h2⟩
  have hK1 : ∀ j ∈ ids, ∀ b (o : Go.Obj), ablk (g2.anch j) = some b → o.isCells = true → ¬ Kx b o := fun j hj b o hb ho hk => by
    obtain ⟨o', h1, h2⟩ := hpi0 j hj
    obtain ⟨h3, h4⟩ := RO_block (r2.H.obj j o' h1).2 h2 hb
    rcases hk with h5 | h5 | ⟨h5, -⟩
    · rw [ho] at h5; cases h5
    · exact h4.2 h5
    · omega
  have hK2 : ∀ b (o : Go.Obj), w2.heap.size + 4 ≤ b → o.isCells = true → ¬ Kx b o := fun b o hb ho hk => by
    rcases hk with h5 | h5 | ⟨-, h5⟩
    · rw [ho] at h5; cases h5
    · have := hF b h5; omega
    · omega
  have hpe : ∀ k, PinEnv ids g2.anch (stI k).heap a2.tmps (stI 0).env := fun k t v ht => by
    obtain ⟨h1, j, hj, rfl⟩ := hE t v ht
    obtain ⟨o, ho, -⟩ := pinned_look (okI k).pin hj
    obtain ⟨y, h2, h3⟩ := r2.E t _ h1
    simp only [RV] at h3
    obtain ⟨-, ad, h4, rfl⟩ := h3
    exact ⟨j, ad, rfl, hj, ⟨o, ho⟩, h4, h2⟩
  have hI0 : StI C N ids g2.anch (w2.heap.size + 4) w2.heap.size (stI 0) a2 w2 := by
    have e0 : stI 0 = ⟨(stI 0).env, st2.heap⟩ := by rw [← hst0]
    rw [e0]
    refine ⟨g2, ⟨⟨r2.H, fun t v ht => r2.E t v (hE t v ht).1, r2.ub, r2.sz, r2.df⟩, fun b hb h1 => absurd (hF b hb) (by omega), fun _ _ => rfl, fun id o b ho hm hid _ => absurd (allNamed_look hn0 ho hm) hid⟩⟩
  have hmem : ∀ k, k < (ordL ls).length → Eng.Good MsgT ((ordL ls).getD k msg0) := fun k hk => hgood _ (getD_mem (xs := ordL ls) msg0 hk)
  have hlen : ∀ {pre : List Value} {x : Value} {post : List Value}, (ordL ls).map msgVal = pre ++ x :: post → pre.length < (ordL ls).length ∧ x = msgVal ((ordL ls).getD pre.length msg0) := fun {pre x post} h => by
    have h1 : pre.length < (ordL ls).length := by have := congrArg List.length h; simp at this; omega
    refine ⟨h1, ?_⟩
    have h2 := congrArg (fun l => l[pre.length]?) h
    simp only [List.getElem?_map, List.getElem?_eq_getElem h1, List.getElem?_append_right (Nat.le_refl _), Nat.sub_self, List.getElem?_cons_zero, Option.map_some, Option.some.injEq] at h2
    rw [← h2, List.getD_eq_getElem?_getD, List.getElem?_eq_getElem h1]; rfl
  have hdf := r2.df
  rw [hP]
  refine range_all (P := Try.prog) (F := Fence.wide) (n := 10) rfl (by omega) (gf := 65) (lb := #[.pointer (some ⟨blk, 0, none⟩)]) ?hg trivial (enters_of Try.func65 (by kernel_rfl) rfl) hup (fun _ => rfl) (fun b o h => .inl h)
    (fun pre W => StI C N ids g2.anch (w2.heap.size + 4) w2.heap.size (stI pre.length) a2 W) (StI.own (fun pre : List Value => stI pre.length) (fun _ => a2) (fun pre => (okI pre.length).map) hw0) hI0
    (fun pre x a' W => StI C N ids g2.anch (w2.heap.size + 4) w2.heap.size (stA pre.length) a' W) (fun pre x a' => StI.own (fun _ : Unit => stA pre.length) (fun _ => a') (fun _ => (okA _).map) hw0) ?assign ?body ?done
  case hg =>
    simp only [Act.eval, Array.getD_eq_getD_getElem?, hx1, Option.getD_some]
    rfl
  case assign =>
    intro l pre x post W hxs hD hI
    obtain ⟨hk, rfl⟩ := hlen hxs
    have k1 := hI.more (t := p) (v := msgA ((ordL ls).getD pre.length msg0)) (x := msgVal ((ordL ls).getD pre.length msg0)) hp (fun w g => RV_msgA (hmem _ hk))
    have h9 := StI.step (st := ⟨(p, msgA ((ordL ls).getD pre.length msg0)) :: (stI pre.length).env, (stI pre.length).heap⟩) (st' := stA pre.length) (l := l) (m := 10 - 1 - 1) hC hpin hT hS hoa hia (okI _).pin (okA _).pin (okI _).len (okA _).len (okI _).map (okA _).env (okA _).fine (hva _ hk) hK1 hK2 k1 hD
    rw [hP] at h9
    have ha : ({ a2 with tmps := a2.tmps.setIfInBounds p (msgVal ((ordL ls).getD pre.length msg0)) } : Act) = { tmps := (#[p].zip #[msgVal ((ordL ls).getD pre.length msg0)]).foldl (fun t (q : Tmp × Value) => t.setIfInBounds q.1 q.2) a2.tmps, defers := [] } := by
      rw [hdf]; simp
    rw [ha] at h9
    refine wpIn_mono h9 fun e a w h => ?_
    obtain ⟨rfl, h1, h2⟩ := h
    exact ⟨h1, h2⟩
  case body =>
    intro l pre x post a' W hxs hD hI
    obtain ⟨hk, rfl⟩ := hlen hxs
    have h9 := StI.stepN (kp := kp) (st := stA pre.length) (st' := stB pre.length) (l := l) (m := 10 - 1 - 1) hC hpin hT hS hob hib (okA _).pin (okB _).pin (okA _).len (okB _).len (okA _).map (okB _).env (okB _).fine (hvb _ hk) hK1 hK2 hI hD
    rw [hP] at h9
    refine wpIn_mono h9 fun e a w h => ?_
    obtain ⟨rfl, h1, h2⟩ := h
    refine ⟨rfl, ?_, h2⟩
    have h3 := h1.reenv (a2 := a2) (env2 := (stI 0).env) (by rw [hB]; exact hpe _) r2.sz hdf
    rw [hB] at h3
    have e1 : (pre ++ [msgVal ((ordL ls).getD pre.length msg0)]).length = pre.length + 1 := by simp
    rw [e1]
    have e2 : stI (pre.length + 1) = ⟨(stI 0).env, (stI (pre.length + 1)).heap⟩ := by rw [← hen (pre.length + 1)]
    rw [e2]; exact h3
  case done =>
    intro E W hE hI hd'
    rw [List.length_map] at hI
    exact hQ E W (Nat.le_trans hw0 hE) hI hd'
end Go.Proofs.Ytkmfjlfejdoehaa

set_option linter.unusedVariables false
set_option linter.unusedSimpArgs false
set_option maxRecDepth 8000
set_option maxHeartbeats 4000000
namespace Go.Proofs.Ytkmfjlfejdoehaa
open Go.Eng Go.RowKit
theorem start_rel {C : Cx} {w : World} {g : Gh} {h : Heap} {N : Nat} {args : List V} {vals : List Value} (R : RelH C h w g) (hU : ∀ id, g.U id → id < frN C.pins h) (hn : vals.length ≤ N) (hv : RVs C w g args vals) :
    RelT C N ⟨paramEnv 0 args, h⟩ { tmps := vals.toArray ++ Array.replicate (N - vals.toArray.size) undef, defers := [] } w g := by
  have hsz : (vals.toArray ++ Array.replicate (N - vals.toArray.size) undef).size = N := by simp; omega
  refine ⟨R, fun t v ht => ?_, hU, hsz, rfl⟩
  obtain ⟨_, h2⟩ := paramEnv_look args 0 t v ht
  rw [Nat.sub_zero] at h2
  obtain ⟨x, h3, h4⟩ := RVs_at hv h2
  refine ⟨x, ?_, h4⟩
  have hlt := (List.getElem?_eq_some_iff.1 h3).1
  simp only
  rw [Array.getElem?_append_left (by simpa using hlt)]
  simpa using h3
theorem good_ordL {ls : List (List Msg)} (h : ∀ l ∈ ls, ∀ m ∈ l, Eng.Good MsgT m) : ∀ m ∈ ordL ls, Eng.Good MsgT m := fun m hm => by
  rw [ordL, List.mem_flatten] at hm
  obtain ⟨l, h1, h2⟩ := hm
  exact h l (List.mem_reverse.1 h1) m h2
def msgO (m : Msg) : Eng.Obj := .box [.i .u8 m.1, .s m.2.1, .i .i64 m.2.2.1, .i .i64 m.2.2.2.1, .b m.2.2.2.2.1, .s m.2.2.2.2.2]
def orI (ls : List (List Msg)) : Nat → St
  | 0 => ⟨[(3, .ptr 0 0)], [(0, .box [.nil]), (1, .box [.sl (.slice MsgT) ls])]⟩
  | k + 1 => ⟨[(3, .ptr 0 0)], [(0, .box [.own 2]), (1, .box [.sl (.slice MsgT) ls]), (2, .arr 74 MsgT ((ordL ls).take (k + 1)))]⟩
def orA (ls : List (List Msg)) : Nat → St
  | 0 => ⟨[(3, .ptr 0 0), (4, .ptr 2 0)], [(0, .box [.nil]), (1, .box [.sl (.slice MsgT) ls]), (2, msgO ((ordL ls).getD 0 msg0))]⟩
  | k + 1 => ⟨[(3, .ptr 0 0), (4, .ptr 2 0)], [(0, .box [.own 3]), (1, .box [.sl (.slice MsgT) ls]), (2, msgO ((ordL ls).getD (k + 1) msg0)), (3, .arr 74 MsgT ((ordL ls).take (k + 1)))]⟩
def orKeep : List (Nat × List Nat) := [(3000000, [0, 1]), (3, [3, 4]), (4, [3])]
theorem len_flat {l : List Msg} : ∀ {ls : List (List Msg)}, l ∈ ls → l.length ≤ ls.flatten.length
  | [], h => by cases h
  | x :: r, h => by
    rw [List.flatten_cons, List.length_append]
    rcases List.mem_cons.1 h with rfl | h
    · omega
    · have := len_flat h; omega
theorem take_snoc {l : List Msg} {k : Nat} (h : k < l.length) : l.take (k + 1) = l.take k ++ [l.getD k msg0] := by
  rw [List.take_add_one, List.getElem?_eq_getElem h, List.getD_eq_getElem?_getD, List.getElem?_eq_getElem h]; rfl
theorem fUps : FnOk Try.prog 35 := ⟨_, Try.func35, by decide, rfl⟩
noncomputable def iUps : Eng.Spec := inl tab (spOf []) k35 Try.f35
theorem pUps : SpecOk Try.prog 35 iUps := inl_ok tabOk spNil (by kernel_rfl) Try.func35 (by kernel_rfl)
def sOrder : PSpec := sOrderR
theorem fOrder : FnOk Try.prog 16 := ⟨_, Try.func16, by decide, rfl⟩
theorem pOrder : PSound Try.prog 16 sOrder := by
  refine psoundC fun w F xs vals hF hv hpre => ?_
  have hg := argsV_good _ _ _ hv
  obtain ⟨ls, ⟨⟩⟩ := xs
  change List (List Msg) at ls
  change ls.length ≤ 100 ∧ ls.flatten.length ≤ 100000 at hpre
  refine (callsIn_wide (n := 10)).1 (callsIn_of_wp_marks Try.func16 rfl trivial ?_)
  have hvl := RVs_len hv
  have r0 := start_rel (N := 13) (RelH.at Try.prog w F hF) (fun id h => h.elim) (by rw [hvl]; exact Nat.le_of_ble_eq_true rfl) hv
  change RelT _ _ ⟨[(0, .sl (.slice MsgT) ls)], []⟩ _ _ _ at r0
  refine seq_pre (C := Cx.at Try.prog w F) (keep := [(0, [0])]) (T := tab) (S := (spOf [(35, iUps)])) (st1 := ⟨[(0, .sl (.slice MsgT) ls)], []⟩) rfl tabOk (spCons (.inl ⟨pUps, fUps⟩) spNil) (by kernel_rfl) (by kernel_rfl) ?v1 r0 fun a1 w1 g1 r1 => ?_
  case v1 =>
    refine Ev.out ?_
    repeat' (first | ((with_reducible refine Ev.mk ?_); conv => whnf) | (with_reducible refine And.intro ?_ ?_) | (intro h))
    exact Leaf.mk rfl
  refine seq_pre (C := Cx.at Try.prog w F) (keep := [(1, [0, 3])]) (T := tab) (S := (spOf [(35, iUps)])) (st1 := ⟨[(0, .sl (.slice MsgT) ls), (3, .ptr 0 0)], [(0, .box [.nil])]⟩) rfl tabOk (spCons (.inl ⟨pUps, fUps⟩) spNil) (by kernel_rfl) (by kernel_rfl) ?v1 r1 fun a2 w2 g2 r2 => ?_
  case v1 =>
    refine Ev.out ?_
    repeat' (first | ((with_reducible refine Ev.mk ?_); conv => whnf) | (with_reducible refine And.intro ?_ ?_) | (intro h))
    exact Leaf.mk rfl
  refine wpIn_seq ?_
  refine seq_pre (C := Cx.at Try.prog w F) (keep := [(2, [3, 6])]) (T := tab) (S := (spOf [(35, iUps)])) (st1 := ⟨[(3, .ptr 0 0), (6, .fn 65 [.ptr 1 0])], [(0, .box [.nil]), (1, .box [.sl (.slice MsgT) ls])]⟩) rfl tabOk (spCons (.inl ⟨pUps, fUps⟩) spNil) (by kernel_rfl) (by kernel_rfl) ?v1 r2 fun a3 w3 g3 r3 => ?_
  case v1 =>
    refine Ev.out ?_
    repeat' (first | ((with_reducible refine Ev.mk ?_); conv => whnf) | (with_reducible refine And.intro ?_ ?_) | (intro h))
    exact Leaf.mk rfl
  clear r0 r1 r2
  refine wpIn_block ?_
  have hlo := ordL_len ls
  refine range_ups (ids := [0, 1]) (keep := orKeep) (kp := [3]) (T := tab) (S := (spOf [(35, iUps)])) rfl rfl (N := 13) rfl tabOk (spCons (.inl ⟨pUps, fUps⟩) spNil) (by omega) ?hfl ?hgood (by decide) (by kernel_rfl) (by kernel_rfl) (by kernel_rfl) (by kernel_rfl) (orI ls) (orA ls) (fun k => orI ls (k + 1)) r3 rfl rfl (by kernel_rfl) rfl ?hen ?hE ?okI ?okA ?okB ?hB ?hva ?hvb ?hQ
  case hfl => exact fun l hl => Nat.le_trans (len_flat hl) (by omega)
  case hgood => exact good_ordL fun l hl m hm => (hg.1.2 l hl).2 m hm
  case hen => intro k; cases k <;> rfl
  case hE =>
    intro t v ht
    have := lookN_mem _ _ _ ht
    simp only [orI, List.mem_singleton, Prod.mk.injEq] at this
    obtain ⟨rfl, rfl⟩ := this
    exact ⟨rfl, 0, by simp, rfl⟩
  case okI => intro k; cases k <;> exact ⟨rfl, Nat.le_of_ble_eq_true rfl, rfl, rfl, rfl⟩
  case okA => intro k; cases k <;> exact ⟨rfl, Nat.le_of_ble_eq_true rfl, rfl, rfl, rfl⟩
  case okB => intro k; exact ⟨rfl, Nat.le_of_ble_eq_true rfl, rfl, rfl, rfl⟩
  case hB => intro k; rfl
  case hva =>
    intro k hk
    cases k
    · refine Ev.out ?_
      repeat' (first | ((with_reducible refine Ev.mk ?_); conv => whnf) | (with_reducible refine And.intro ?_ ?_) | (intro h))
      exact Leaf.mk rfl
    · refine Ev.out ?_
      repeat' (first | ((with_reducible refine Ev.mk ?_); conv => whnf) | (with_reducible refine And.intro ?_ ?_) | (intro h))
      exact Leaf.mk rfl
  case hvb =>
    intro k hk
    have ht := take_snoc hk
    have h9 := List.length_take_le k (ordL ls)
    cases k
    · refine Ev.out ?_
      repeat' (first | ((with_reducible refine Ev.mk ?_); conv => whnf) | (with_reducible refine And.intro ?_ ?_) | (intro h))
      · exact Leaf.mk (by simp)
      · exact Leaf.mk (by simp [maxLen])
      · refine Leaf.mk ?_
        simp only [orI, ht]; rfl
    · refine Ev.out ?_
      repeat' (first | ((with_reducible refine Ev.mk ?_); conv => whnf) | (with_reducible refine And.intro ?_ ?_) | (intro h))
      · exact Leaf.mk (by rw [List.length_singleton]; omega)
      · exact Leaf.mk (by rw [List.length_singleton]; unfold maxLen; omega)
      · refine Leaf.mk ?_
        simp only [orI, ht]
  case hQ =>
    intro E W hE hI hd
    cases hn : (ordL ls).length with
    | zero =>
      rw [hn] at hI
      refine StI.ends (keep := [(5, [2])]) (T := tab) (S := (spOf [(35, iUps)])) rfl rfl tabOk (spCons (.inl ⟨pUps, fUps⟩) spNil) (by kernel_rfl) (by kernel_rfl) (by kernel_rfl) ?_ hI rfl hd hE
      refine Ev.out ?_
      repeat' (first | ((with_reducible refine Ev.mk ?_); conv => whnf) | (with_reducible refine And.intro ?_ ?_) | (intro h))
      · exact Leaf.mk rfl
      · refine Ev.out ?_
        repeat' (first | ((with_reducible refine Ev.mk ?_); conv => whnf) | (with_reducible refine And.intro ?_ ?_) | (intro h))
        refine Leaf.mk (ret1 (show ([] : List Msg) = ordL ls from ?_))
        exact (List.eq_nil_of_length_eq_zero hn).symm
    | succ n =>
      rw [hn] at hI
      refine StI.ends (keep := [(5, [2])]) (T := tab) (S := (spOf [(35, iUps)])) rfl rfl tabOk (spCons (.inl ⟨pUps, fUps⟩) spNil) (by kernel_rfl) (by kernel_rfl) (by kernel_rfl) ?_ hI rfl hd hE
      refine Ev.out ?_
      repeat' (first | ((with_reducible refine Ev.mk ?_); conv => whnf) | (with_reducible refine And.intro ?_ ?_) | (intro h))
      · exact Leaf.mk rfl
      · refine Ev.out ?_
        repeat' (first | ((with_reducible refine Ev.mk ?_); conv => whnf) | (with_reducible refine And.intro ?_ ?_) | (intro h))
        refine Leaf.mk (ret1 (show (ordL ls).take (n + 1) = ordL ls from ?_))
        exact List.take_of_length_le (by omega)
end Go.Proofs.Ytkmfjlfejdoehaa

set_option linter.unusedVariables false
set_option linter.unusedSimpArgs false
set_option maxRecDepth 8000
set_option maxHeartbeats 4000000
namespace Go.Proofs.Ytkmfjlfejdoehaa
open Go.Eng Go.RowKit
def kyF (s : Stk) (ls : List (List Msg)) (k : Nat) : Stk := foldM s ((ordL ls).take k)
def kyI (s : Stk) (ls : List (List Msg)) (k : Nat) : St :=
  ⟨[(2, .ptr 0 0), (4, .ptr 1 0)], [(0, .box [.s (kyF s ls k).1, .sl VerT (kyF s ls k).2]), (1, .box [.s [], .nil]), (2, .box [.sl (.slice MsgT) ls])]⟩
def kyA (s : Stk) (ls : List (List Msg)) (k : Nat) : St :=
  ⟨[(2, .ptr 0 0), (4, .ptr 1 0), (5, .ptr 3 0)], [(0, .box [.s (kyF s ls k).1, .sl VerT (kyF s ls k).2]), (1, .box [.s [], .nil]), (2, .box [.sl (.slice MsgT) ls]), (3, msgO ((ordL ls).getD k msg0))]⟩
def kyKeep : List (Nat × List Nat) := [(3000000, [0, 1, 2]), (2, [2, 4, 5]), (3, [2, 4])]
theorem kyF_len (s : Stk) (ls : List (List Msg)) (k : Nat) : (kyF s ls k).2.length ≤ s.2.length + (ordL ls).length := by
  have := fold_len ((ordL ls).take k) s
  have h2 := List.length_take_le' k (ordL ls)
  unfold kyF; omega
def sKey : PSpec := sKeyR
theorem fKey : FnOk Try.prog 15 := ⟨_, Try.func15, by decide, rfl⟩
theorem pKey : PSound Try.prog 15 sKey := by
  refine psoundC fun w F xs vals hF hv hpre => ?_
  have hg := argsV_good _ _ _ hv
  obtain ⟨⟨skey, xs⟩, ls, ⟨⟩⟩ := xs
  change List UInt8 at skey
  change List Ver at xs
  change List (List Msg) at ls
  change ls.length ≤ 100 ∧ xs.length + ls.flatten.length ≤ 50000 at hpre
  refine (callsIn_wide (n := 10)).1 (callsIn_of_wp_marks Try.func15 rfl trivial ?_)
  have hvl := RVs_len hv
  have r0 := start_rel (N := 13) (RelH.at Try.prog w F hF) (fun id h => h.elim) (by rw [hvl]; exact Nat.le_of_ble_eq_true rfl) hv
  change RelT _ _ ⟨[(0, .agg [.s skey, .sl VerT xs]), (1, .sl (.slice MsgT) ls)], []⟩ _ _ _ at r0
  refine seq_pre (C := Cx.at Try.prog w F) (keep := [(0, [1, 2, 4])]) (T := tab) (S := (spOf [(35, iUps)])) (st1 := ⟨[(1, .sl (.slice MsgT) ls), (2, .ptr 0 0), (4, .ptr 1 0)], [(0, .box [.s skey, .sl VerT xs]), (1, .box [.s [], .nil])]⟩) rfl tabOk (spCons (.inl ⟨pUps, fUps⟩) spNil) (by kernel_rfl) (by kernel_rfl) ?v1 r0 fun a1 w1 g1 r1 => ?_
  case v1 =>
    refine Ev.out ?_
    repeat' (first | ((with_reducible refine Ev.mk ?_); conv => whnf) | (with_reducible refine And.intro ?_ ?_) | (intro h))
    exact Leaf.mk rfl
  refine wpIn_seq ?_
  refine seq_pre (C := Cx.at Try.prog w F) (keep := [(1, [2, 4, 7])]) (T := tab) (S := (spOf [(35, iUps)])) (st1 := ⟨[(2, .ptr 0 0), (4, .ptr 1 0), (7, .fn 65 [.ptr 2 0])], [(0, .box [.s skey, .sl VerT xs]), (1, .box [.s [], .nil]), (2, .box [.sl (.slice MsgT) ls])]⟩) rfl tabOk (spCons (.inl ⟨pUps, fUps⟩) spNil) (by kernel_rfl) (by kernel_rfl) ?v1 r1 fun a3 w3 g3 r3 => ?_
  case v1 =>
    refine Ev.out ?_
    repeat' (first | ((with_reducible refine Ev.mk ?_); conv => whnf) | (with_reducible refine And.intro ?_ ?_) | (intro h))
    exact Leaf.mk rfl
  clear r0 r1
  refine wpIn_block ?_
  have hlo := ordL_len ls
  refine range_ups (ids := [0, 1, 2]) (keep := kyKeep) (kp := [2, 4]) (T := tab) (S := (spOf [(35, iUps), (36, sApply.spec (lsOf []))])) rfl rfl (N := 13) rfl tabOk (spCons (.inl ⟨pUps, fUps⟩) (spCons (pOk pApply fApply (by decide) lsNil) spNil)) (by omega) ?hfl ?hgood (by decide) (by kernel_rfl) (by kernel_rfl) (by kernel_rfl) (by kernel_rfl) (kyI (skey, xs) ls) (kyA (skey, xs) ls) (fun k => kyI (skey, xs) ls (k + 1)) r3 rfl rfl (by kernel_rfl) rfl ?hen ?hE ?okI ?okA ?okB ?hB ?hva ?hvb ?hQ
  case hfl => exact fun l hl => Nat.le_trans (len_flat hl) (by omega)
  case hgood => exact good_ordL fun l hl m hm => (hg.2.1.2 l hl).2 m hm
  case hen => intro k; rfl
  case hE =>
    intro t v ht
    have := lookN_mem _ _ _ ht
    simp only [kyI, List.mem_cons, List.not_mem_nil, or_false, Prod.mk.injEq] at this
    rcases this with ⟨rfl, rfl⟩ | ⟨rfl, rfl⟩
    · exact ⟨rfl, 0, by simp, rfl⟩
    · exact ⟨rfl, 1, by simp, rfl⟩
  case okI => intro k; exact ⟨rfl, Nat.le_of_ble_eq_true rfl, rfl, rfl, rfl⟩
  case okA => intro k; exact ⟨rfl, Nat.le_of_ble_eq_true rfl, rfl, rfl, rfl⟩
  case okB => intro k; exact ⟨rfl, Nat.le_of_ble_eq_true rfl, rfl, rfl, rfl⟩
  case hB => intro k; rfl
  case hva =>
    intro k hk
    refine Ev.out ?_
    repeat' (first | ((with_reducible refine Ev.mk ?_); conv => whnf) | (with_reducible refine And.intro ?_ ?_) | (intro h))
    exact Leaf.mk rfl
  case hvb =>
    intro k hk
    have hat : kyF (skey, xs) ls (k + 1) = applyM (kyF (skey, xs) ls k) ((ordL ls).getD k msg0) := foldl_at msg0 hk
    have hlen := kyF_len (skey, xs) ls k
    refine Ev.out ?_
    repeat' (first | ((with_reducible refine Ev.mk ?_); conv => whnf) | (with_reducible refine And.intro ?_ ?_) | (intro h))
    · exact Leaf.mk (show (kyF (skey, xs) ls k).2.length ≤ 100000 from by
        have h3 : (skey, xs).2.length = xs.length := rfl
        omega)
    · refine Leaf.mk ?_
      rw [kyI, hat]; rfl
  case hQ =>
    intro E W hE hI hd
    have hend : kyF (skey, xs) ls (ordL ls).length = foldM (skey, xs) (ordL ls) := by rw [kyF, List.take_length]
    refine StI.ends (keep := [(4, [4])]) (T := tab) (S := (spOf [(35, iUps)])) rfl rfl tabOk (spCons (.inl ⟨pUps, fUps⟩) spNil) (by kernel_rfl) (by kernel_rfl) (by kernel_rfl) ?_ hI rfl hd hE
    refine Ev.out ?_
    repeat' (first | ((with_reducible refine Ev.mk ?_); conv => whnf) | (with_reducible refine And.intro ?_ ?_) | (intro h))
    · exact Leaf.mk rfl
    · refine Ev.out ?_
      repeat' (first | ((with_reducible refine Ev.mk ?_); conv => whnf) | (with_reducible refine And.intro ?_ ?_) | (intro h))
      exact Leaf.mk (ret1 (show kyF (skey, xs) ls (ordL ls).length = foldM (skey, xs) (ordL ls) from hend))
end Go.Proofs.Ytkmfjlfejdoehaa

set_option linter.unusedVariables false
set_option linter.unusedSimpArgs false
set_option maxRecDepth 8000
set_option maxHeartbeats 4000000
namespace Go.Proofs.Ytkmfjlfejdoehaa
open Go.Eng Go.RowKit
def lastO (p : Msg → Bool) (l : List Msg) : Option Msg := l.foldl (fun a m => if p m = true then some m else a) none
def ofO : Option Msg → Msg × Bool
  | none => (msg0, false)
  | some m => (m, true)
theorem lastO_fold {p : Msg → Bool} : ∀ (l : List Msg) (a : Option Msg), ofO (l.foldl (fun a m => if p m = true then some m else a) a) = l.foldl (fun a m => if p m = true then (m, true) else a) (ofO a)
  | [], a => rfl
  | m :: l, a => by
    rw [List.foldl_cons, List.foldl_cons, lastO_fold l]
    cases p m <;> rfl
theorem lastO_W (p : Msg → Bool) (l : List Msg) : ofO (lastO p l) = lastW p l := lastO_fold l none
theorem lastO_snoc (p : Msg → Bool) (l : List Msg) (m : Msg) : lastO p (l ++ [m]) = if p m = true then some m else lastO p l := by
  rw [lastO, List.foldl_append]; rfl
def zeroO : Eng.Obj := .box [.i .u8 0, .s [], .i .i64 0, .i .i64 0, .bl false, .s []]
def laM : Option Msg → Eng.Obj
  | none => zeroO
  | some m => msgO m
def laB : Option Msg → V
  | none => .bl false
  | some _ => .bl true
def lwF (key : List UInt8) (ls : List (List Msg)) (k : Nat) : Option Msg := lastO (lastP key) ((ordL ls).take k)
def laS (key : List UInt8) (ls : List (List Msg)) (o : Option Msg) : St :=
  ⟨[(3, .ptr 0 0), (4, .ptr 1 0), (6, .ptr 2 0), (7, .ptr 3 0)], [(0, .box [.s key]), (1, zeroO), (2, laM o), (3, .box [laB o]), (4, .box [.sl (.slice MsgT) ls])]⟩
def laI (key : List UInt8) (ls : List (List Msg)) (k : Nat) : St := laS key ls (lwF key ls k)
def laT (key : List UInt8) (ls : List (List Msg)) (o : Option Msg) (m : Msg) : St :=
  ⟨[(3, .ptr 0 0), (4, .ptr 1 0), (6, .ptr 2 0), (7, .ptr 3 0), (8, .ptr 5 0)], [(0, .box [.s key]), (1, zeroO), (2, laM o), (3, .box [laB o]), (4, .box [.sl (.slice MsgT) ls]), (5, msgO m)]⟩
def laA (key : List UInt8) (ls : List (List Msg)) (k : Nat) : St := laT key ls (lwF key ls k) ((ordL ls).getD k msg0)
theorem laS_ok (key : List UInt8) (ls : List (List Msg)) (o : Option Msg) : StOk [0, 1, 2, 3, 4] (laS key ls o) := by cases o <;> exact ⟨rfl, Nat.le_of_ble_eq_true rfl, rfl, rfl, rfl⟩
theorem laT_ok (key : List UInt8) (ls : List (List Msg)) (o : Option Msg) (m : Msg) : StOk [0, 1, 2, 3, 4] (laT key ls o m) := by cases o <;> exact ⟨rfl, Nat.le_of_ble_eq_true rfl, rfl, rfl, rfl⟩
def laKeep : List (Nat × List Nat) := [(3000000, [0, 1, 2, 3, 4]), (3, [3, 4, 6, 7, 8]), (4, [3, 4, 6, 7, 8, 26]), (5, [3, 4, 6, 7])]
def sLast : PSpec := sLastR
theorem fLast : FnOk Try.prog 33 := ⟨_, Try.func33, by decide, rfl⟩
theorem pLast : PSound Try.prog 33 sLast := by
  refine psoundC fun w F xs vals hF hv hpre => ?_
  have hg := argsV_good _ _ _ hv
  obtain ⟨ls, key, ⟨⟩⟩ := xs
  change List (List Msg) at ls
  change List UInt8 at key
  change ls.length ≤ 100 ∧ ls.flatten.length ≤ 50000 at hpre
  refine (callsIn_wide (n := 10)).1 (callsIn_of_wp_marks Try.func33 rfl trivial ?_)
  have hvl := RVs_len hv
  have r0 := start_rel (N := 30) (RelH.at Try.prog w F hF) (fun id h => h.elim) (by rw [hvl]; exact Nat.le_of_ble_eq_true rfl) hv
  change RelT _ _ ⟨[(0, .sl (.slice MsgT) ls), (1, .s key)], []⟩ _ _ _ at r0
  refine seq_pre (C := Cx.at Try.prog w F) (keep := [(0, [0, 3, 4])]) (T := tab) (S := (spOf [(35, iUps)])) (st1 := ⟨[(0, .sl (.slice MsgT) ls), (3, .ptr 0 0), (4, .ptr 1 0)], [(0, .box [.s key]), (1, zeroO)]⟩) rfl tabOk (spCons (.inl ⟨pUps, fUps⟩) spNil) (by kernel_rfl) (by kernel_rfl) ?v1 r0 fun a1 w1 g1 r1 => ?_
  case v1 =>
    refine Ev.out ?_
    repeat' (first | ((with_reducible refine Ev.mk ?_); conv => whnf) | (with_reducible refine And.intro ?_ ?_) | (intro h))
    exact Leaf.mk rfl
  refine seq_pre (C := Cx.at Try.prog w F) (keep := [(1, [0, 3, 4, 6, 7])]) (T := tab) (S := (spOf [(35, iUps)])) (st1 := ⟨[(0, .sl (.slice MsgT) ls), (3, .ptr 0 0), (4, .ptr 1 0), (6, .ptr 2 0), (7, .ptr 3 0)], [(0, .box [.s key]), (1, zeroO), (2, zeroO), (3, .box [.bl false])]⟩) rfl tabOk (spCons (.inl ⟨pUps, fUps⟩) spNil) (by kernel_rfl) (by kernel_rfl) ?v1 r1 fun a2 w2 g2 r2 => ?_
  case v1 =>
    refine Ev.out ?_
    repeat' (first | ((with_reducible refine Ev.mk ?_); conv => whnf) | (with_reducible refine And.intro ?_ ?_) | (intro h))
    exact Leaf.mk rfl
  refine wpIn_seq ?_
  refine seq_pre (C := Cx.at Try.prog w F) (keep := [(2, [3, 4, 6, 7, 11])]) (T := tab) (S := (spOf [(35, iUps)])) (st1 := ⟨[(3, .ptr 0 0), (4, .ptr 1 0), (6, .ptr 2 0), (7, .ptr 3 0), (11, .fn 65 [.ptr 4 0])], [(0, .box [.s key]), (1, zeroO), (2, zeroO), (3, .box [.bl false]), (4, .box [.sl (.slice MsgT) ls])]⟩) rfl tabOk (spCons (.inl ⟨pUps, fUps⟩) spNil) (by kernel_rfl) (by kernel_rfl) ?v1 r2 fun a3 w3 g3 r3 => ?_
  case v1 =>
    refine Ev.out ?_
    repeat' (first | ((with_reducible refine Ev.mk ?_); conv => whnf) | (with_reducible refine And.intro ?_ ?_) | (intro h))
    exact Leaf.mk rfl
  clear r0 r1 r2
  refine wpIn_block ?_
  have hlo := ordL_len ls
  refine range_ups (ids := [0, 1, 2, 3, 4]) (keep := laKeep) (kp := [3, 4, 6, 7]) (T := tab) (S := (spOf [(35, iUps), (56, sMCheck.spec (lsOf []))])) rfl rfl (N := 30) rfl tabOk (spCons (.inl ⟨pUps, fUps⟩) (spCons (pOk pMCheck fMCheck (by decide) lsNil) spNil)) (by omega) ?hfl ?hgood (by decide) (by kernel_rfl) (by kernel_rfl) (by kernel_rfl) (by kernel_rfl) (laI key ls) (laA key ls) (fun k => laI key ls (k + 1)) r3 rfl rfl (by kernel_rfl) rfl ?hen ?hE ?okI ?okA ?okB ?hB ?hva ?hvb ?hQ
  case hfl => exact fun l hl => Nat.le_trans (len_flat hl) (by omega)
  case hgood => exact good_ordL fun l hl m hm => (hg.1.2 l hl).2 m hm
  case hen => intro k; rfl
  case hE =>
    intro t v ht
    have := lookN_mem _ _ _ ht
    simp only [laI, laS, List.mem_cons, List.not_mem_nil, or_false, Prod.mk.injEq] at this
    rcases this with ⟨rfl, rfl⟩ | ⟨rfl, rfl⟩ | ⟨rfl, rfl⟩ | ⟨rfl, rfl⟩
    · exact ⟨rfl, 0, by simp, rfl⟩
    · exact ⟨rfl, 1, by simp, rfl⟩
    · exact ⟨rfl, 2, by simp, rfl⟩
    · exact ⟨rfl, 3, by simp, rfl⟩
  case okI => exact fun k => laS_ok _ _ _
  case okA => exact fun k => laT_ok _ _ _ _
  case okB => exact fun k => laS_ok _ _ _
  case hB => intro k; rfl
  case hva =>
    intro k hk
    show vc _ _ _ _ ⟨_ :: (laS key ls (lwF key ls k)).env, (laS key ls (lwF key ls k)).heap⟩ (roundK (laT key ls (lwF key ls k) _))
    generalize lwF key ls k = o
    cases o
    · refine Ev.out ?_
      repeat' (first | ((with_reducible refine Ev.mk ?_); conv => whnf) | (with_reducible refine And.intro ?_ ?_) | (intro h))
      exact Leaf.mk rfl
    · refine Ev.out ?_
      repeat' (first | ((with_reducible refine Ev.mk ?_); conv => whnf) | (with_reducible refine And.intro ?_ ?_) | (intro h))
      exact Leaf.mk rfl
  case hvb =>
    intro k hk
    have hat : lwF key ls (k + 1) = if lastP key ((ordL ls).getD k msg0) = true then some ((ordL ls).getD k msg0) else lwF key ls k := by rw [lwF, take_snoc hk, lastO_snoc]; rfl
    show vc _ _ _ _ (laT key ls (lwF key ls k) _) (roundN _ _ (laS key ls (lwF key ls (k + 1))))
    rw [hat]
    generalize lwF key ls k = o
    generalize (ordL ls).getD k msg0 = m
    cases o
    · refine Ev.out ?_
      repeat' (first | ((with_reducible refine Ev.mk ?_); conv => whnf) | (with_reducible refine And.intro ?_ ?_) | (intro h))
      all_goals (try simp only [decide_eq_true_eq, decide_eq_false_iff_not, beq_iff_eq, bne_iff_ne, beq_eq_false_iff_ne, bne_eq_false_iff_eq, Int.toNat_natCast, ge_iff_le, gt_iff_lt, Bool.not_eq_true', Bool.not_eq_false', Int.not_lt, Int.not_le, ne_eq] at *)
      all_goals (try dsimp only [Ty.den, Ty.dflt, MsgT, sMCheck] at *)
      all_goals (try simp only [eq4, ne4, eq3, ne3, eq2, ne2, Prod.eta, List.length_cons, List.length_nil, List.length_append, Nat.zero_add] at *)
      all_goals (try simp (disch := omega) only [wrap64] at *)
      all_goals try first | exact leafDraw (by kernel_rfl) | exact Leaf.mk trivial | (refine Leaf.mk ?_; omega) | (refine Leaf.mk ?_; unfold maxLen; omega)
      all_goals first
        | exact Leaf.mk trivial
        | (refine Leaf.mk ?_
           rw [if_pos (show lastP key m = true from decide_eq_true ⟨by assumption, by assumption, by assumption⟩)]; rfl)
        | (refine Leaf.mk ?_
           rw [if_neg (show ¬ lastP key m = true from fun hc => by have hc := of_decide_eq_true hc; first | exact absurd hc.1 (by assumption) | exact absurd hc.2.1 (by assumption) | exact absurd hc.2.2 (by assumption))]; rfl)
    · refine Ev.out ?_
      repeat' (first | ((with_reducible refine Ev.mk ?_); conv => whnf) | (with_reducible refine And.intro ?_ ?_) | (intro h))
      all_goals (try simp only [decide_eq_true_eq, decide_eq_false_iff_not, beq_iff_eq, bne_iff_ne, beq_eq_false_iff_ne, bne_eq_false_iff_eq, Int.toNat_natCast, ge_iff_le, gt_iff_lt, Bool.not_eq_true', Bool.not_eq_false', Int.not_lt, Int.not_le, ne_eq] at *)
      all_goals (try dsimp only [Ty.den, Ty.dflt, MsgT, sMCheck] at *)
      all_goals (try simp only [eq4, ne4, eq3, ne3, eq2, ne2, Prod.eta, List.length_cons, List.length_nil, List.length_append, Nat.zero_add] at *)
      all_goals (try simp (disch := omega) only [wrap64] at *)
      all_goals try first | exact leafDraw (by kernel_rfl) | exact Leaf.mk trivial | (refine Leaf.mk ?_; omega) | (refine Leaf.mk ?_; unfold maxLen; omega)
      all_goals first
        | exact Leaf.mk trivial
        | (refine Leaf.mk ?_
           rw [if_pos (show lastP key m = true from decide_eq_true ⟨by assumption, by assumption, by assumption⟩)]; rfl)
        | (refine Leaf.mk ?_
           rw [if_neg (show ¬ lastP key m = true from fun hc => by have hc := of_decide_eq_true hc; first | exact absurd hc.1 (by assumption) | exact absurd hc.2.1 (by assumption) | exact absurd hc.2.2 (by assumption))]; rfl)
  case hQ =>
    intro E W hE hI hd
    have hend : ofO (lwF key ls (ordL ls).length) = lastW (lastP key) (ordL ls) := by rw [lwF, List.take_length, lastO_W]
    have hI : StI _ _ _ _ _ _ (laS key ls (lwF key ls (ordL ls).length)) _ _ := hI
    revert hI hend
    generalize lwF key ls (ordL ls).length = o
    intro hend hI
    cases o
    · refine StI.ends (keep := k33) (T := tab) (S := (spOf [(35, iUps)])) rfl rfl tabOk (spCons (.inl ⟨pUps, fUps⟩) spNil) (by kernel_rfl) (by kernel_rfl) (by kernel_rfl) ?_ hI rfl hd hE
      refine Ev.out ?_
      repeat' (first | ((with_reducible refine Ev.mk ?_); conv => whnf) | (with_reducible refine And.intro ?_ ?_) | (intro h))
      · exact Leaf.mk (by decide +kernel)
      · exact Leaf.mk rfl
      · refine Ev.out ?_
        repeat' (first | ((with_reducible refine Ev.mk ?_); conv => whnf) | (with_reducible refine And.intro ?_ ?_) | (intro h))
        exact Leaf.mk (retLs (u := (msg0, false)) hend)
    · rename_i m
      refine StI.ends (keep := k33) (T := tab) (S := (spOf [(35, iUps)])) rfl rfl tabOk (spCons (.inl ⟨pUps, fUps⟩) spNil) (by kernel_rfl) (by kernel_rfl) (by kernel_rfl) ?_ hI rfl hd hE
      refine Ev.out ?_
      repeat' (first | ((with_reducible refine Ev.mk ?_); conv => whnf) | (with_reducible refine And.intro ?_ ?_) | (intro h))
      · exact Leaf.mk (by decide +kernel)
      · exact Leaf.mk rfl
      · refine Ev.out ?_
        repeat' (first | ((with_reducible refine Ev.mk ?_); conv => whnf) | (with_reducible refine And.intro ?_ ?_) | (intro h))
        exact Leaf.mk (retLs (u := (m, true)) hend)
end Go.Proofs.Ytkmfjlfejdoehaa

set_option linter.unusedVariables false
set_option linter.unusedSimpArgs false
set_option maxRecDepth 8000
set_option maxHeartbeats 4000000
namespace Go.Proofs.Ytkmfjlfejdoehaa
open Go.Eng
def sRange : PSpec := sRangeR
theorem fRange : FnOk Try.prog 11 := ⟨_, Try.func11, by decide, rfl⟩
theorem pRange : PSound Try.prog 11 sRange := by
  refine psound (T := tab) (S := (spOf [(16, sOrder.spec (lsOf [])), (34, sLOver.spec (lsOf []))])) (keep := k11) (by kernel_rfl) tabOk (spCons (pOk pOrder fOrder (by decide) lsNil) (spCons (pOk pLOver fLOver (by decide) lsNil) spNil)) (by kernel_rfl) Try.func11 (by kernel_rfl) (by decide) fun xs hg hp => ?_
  obtain ⟨l, ls, lo, up, ⟨⟩⟩ := xs
  clear hg
  change List Stk at l
  change List (List Msg) at ls
  change List UInt8 at lo up
  change ls.length ≤ 100 ∧ ls.flatten.length ≤ 1000 ∧ l.length ≤ 1000 ∧ (∀ s ∈ l, List.length s.2 ≤ 1000) ∧ RiseK l at hp
  obtain ⟨hp, hf, hl, hs, hr⟩ := hp
  have ho := ordL_len ls
  show vfun tab _ k11 Try.f11 [.sl StT l, .sl (.slice MsgT) ls, .s lo, .s up] [] _
  refine Ev.out ?_
  repeat' (first | ((with_reducible refine Ev.mk ?_); conv => whnf) | (with_reducible refine And.intro ?_ ?_) | (intro h))
  all_goals (try simp only [decide_eq_true_eq, decide_eq_false_iff_not, beq_iff_eq, bne_iff_ne, beq_eq_false_iff_ne, bne_eq_false_iff_eq, Int.toNat_natCast, ge_iff_le, gt_iff_lt, Bool.not_eq_true', Bool.not_eq_false', Int.not_lt, Int.not_le, ne_eq] at *)
  all_goals (try dsimp only [Ty.den, Ty.dflt, StT, VerT, LvT, sOrder, sOrderR, sLOver] at *)
  all_goals (try simp only [eq4, ne4, eq3, ne3, eq2, ne2, Prod.eta, List.length_cons, List.length_nil, List.length_append, Nat.zero_add] at *)
  all_goals (try simp (disch := omega) only [wrap64] at *)
  all_goals try first | exact leafDraw (by kernel_rfl) | exact Leaf.mk trivial | (refine Leaf.mk ?_; omega) | (refine Leaf.mk ?_; unfold maxLen; omega)
  all_goals first
    | exact Leaf.mk (show ls.length ≤ 100 ∧ ls.flatten.length ≤ 100000 by omega)
    | exact Leaf.mk (show l.length ≤ 1000 ∧ (ordL ls).length ≤ 1000 ∧ (∀ s ∈ l, List.length s.2 ≤ 1000) ∧ RiseK l from ⟨hl, by omega, hs, hr⟩)
    | exact Leaf.mk rfl
    | skip
def twoL : List (List Msg) := [[(1, [], 1, 5, false, [])], [(0, [107], 1, 0, false, [118])]]
def sTwo18 : PSpec := ⟨[], [⟨false, [.d LvT]⟩], fun _ => True, fun _ => ((twoL, ()), ())⟩
theorem fTwo18 : FnOk Try.prog 32 := ⟨_, Try.func32, by decide, rfl⟩
theorem pTwo18 : PSound Try.prog 32 sTwo18 := by
  refine psound (T := tab) (S := (spOf [])) (keep := k32) (by kernel_rfl) tabOk spNil (by kernel_rfl) Try.func32 (by kernel_rfl) (by decide) fun xs hg hp => ?_
  obtain ⟨⟩ := xs
  show vfun tab _ k32 Try.f32 [] [] _
  refine Ev.out ?_
  repeat' (first | ((with_reducible refine Ev.mk ?_); conv => whnf) | (with_reducible refine And.intro ?_ ?_) | (intro h))
  all_goals try exact Leaf.mk rfl
  all_goals try exact leafDraw (by kernel_rfl)
  all_goals first
    | (refine Leaf.mk ?_; decide +kernel)
    | skip
def sAwake18 : PSpec := ⟨[], [⟨false, [.d .bool]⟩], fun _ => True, fun _ => ((true, ()), ())⟩
theorem fAwake18 : FnOk Try.prog 10 := ⟨_, Try.func10, by decide, rfl⟩
theorem pAwake18 : PSound Try.prog 10 sAwake18 := by
  refine psound (T := tab) (S := (spOf [(32, sTwo18.spec (lsOf [])), (15, sKey.spec (lsOf [])), (11, sRange.spec (lsOf [])), (33, sLast.spec (lsOf [])), (16, sOrder.spec (lsOf [])), (14, sSSameR.spec (lsOf [])), (17, sClip.spec (lsOf []))])) (keep := k10) (by kernel_rfl) tabOk (spCons (pOk pTwo18 fTwo18 (by decide) lsNil) (spCons (pOk pKey fKey (by decide) lsNil) (spCons (pOk pRange fRange (by decide) lsNil) (spCons (pOk pLast fLast (by decide) lsNil) (spCons (pOk pOrder fOrder (by decide) lsNil) (spCons (pOk pSSameR fSSameR (by decide) lsNil) (spCons (pOk pClip fClip (by decide) lsNil) spNil))))))) (by kernel_rfl) Try.func10 (by kernel_rfl) (by decide) fun xs hg hp => ?_
  obtain ⟨⟩ := xs
  show vfun tab _ k10 Try.f10 [] [] _
  refine Ev.out ?_
  repeat' (first | ((with_reducible refine Ev.mk ?_); conv => whnf) | (with_reducible refine And.intro ?_ ?_) | (intro h; first | exact absurd h (by decide +kernel) | skip))
  all_goals first
    | exact Leaf.mk trivial
    | exact leafDraw (by kernel_rfl)
    | (refine Leaf.mk ?_; change _ ∧ _; decide +kernel)
    | (refine Leaf.mk ?_; change (_ : Nat) ≤ _; decide +kernel)
    | (refine Leaf.mk ?_; decide +kernel)
    | (refine Leaf.mk ?_; change _ ∧ _ ∧ _ ∧ _ ∧ List.Pairwise _ _; decide +kernel)
    | exact Leaf.mk rfl
    | skip
end Go.Proofs.Ytkmfjlfejdoehaa

set_option linter.unusedVariables false
set_option linter.unusedSimpArgs false
set_option maxRecDepth 8000
set_option maxHeartbeats 4000000
namespace Go.Proofs.Ytkmfjlfejdoehaa
open Go.Eng
theorem fsameS {a : Stk} (h : sameS a a = false) {P : Prop} : P := absurd h (by rw [sameS, decide_eq_true rfl]; simp)
theorem flatten_len {n : Nat} : ∀ {ls : List (List Msg)}, (∀ l ∈ ls, l.length ≤ n) → ls.flatten.length ≤ ls.length * n
  | [], _ => by simp
  | l :: ls, h => by
    have h1 := h l List.mem_cons_self
    have h2 := flatten_len (ls := ls) fun x hx => h x (List.mem_cons_of_mem _ hx)
    rw [List.flatten_cons, List.length_append, List.length_cons, Nat.succ_mul]
    omega
theorem light18_all {ls : List (List Msg)} (h : lightV18 ls = true) : ls.length ≤ 6 ∧ ∀ l ∈ ls, l.length ≤ 12 := by
  simp only [lightV18, Bool.and_eq_true, decide_eq_true_eq, List.all_eq_true] at h
  refine ⟨h.1, fun l hl => ?_⟩
  have h2 := h.2 l hl
  unfold lightM at h2
  rw [Bool.and_eq_true] at h2
  have := of_decide_eq_true h2.1
  omega
theorem light18_len {ls : List (List Msg)} (h : lightV18 ls = true) : ls.length ≤ 6 ∧ ls.flatten.length ≤ 72 := by
  obtain ⟨h1, h2⟩ := light18_all h
  have := flatten_len h2
  omega
end Go.Proofs.Ytkmfjlfejdoehaa

set_option linter.unusedVariables false
set_option linter.unusedSimpArgs false
set_option maxRecDepth 8000
set_option maxHeartbeats 1000000
namespace Go.Proofs.Ytkmfjlfejdoehaa
open Go.Eng
def writes (m : List Msg) (k : List UInt8) : Prop := ∃ x ∈ m, x.1 = 0 ∧ x.2.1 = k
def known (l : List Stk) (m : List Msg) (k : List UInt8) : Prop := (∃ t ∈ l, t.1 = k) ∨ writes m k
theorem ordL_app (a b : List (List Msg)) : ordL (a ++ b) = ordL b ++ ordL a := by simp [ordL]
theorem fold_app (s : Stk) (a b : List Msg) : foldM s (a ++ b) = foldM (foldM s a) b := List.foldl_append ..
theorem ord_parted {ls : List (List Msg)} {i k : Nat} (hi : i < ls.length) : ordL (ls.take i ++ [(ls.getD i []).drop k, (ls.getD i []).take k] ++ ls.drop (i + 1)) = ordL ls := by
  have e : ordL [(ls.getD i []).drop k, (ls.getD i []).take k] = ordL [ls.getD i []] := by simp [ordL]
  have e2 : ls = ls.take i ++ [ls.getD i []] ++ ls.drop (i + 1) := by
    conv => lhs; rw [← List.take_append_drop i ls, drop_at [] hi]
    simp
  conv => rhs; rw [e2]
  rw [ordL_app, ordL_app, ordL_app, ordL_app, e]
theorem fold_last (s : Stk) (ls : List (List Msg)) (n : Nat) : foldM (foldM s (ordL (ls.drop n))) (ordL (ls.take n)) = foldM s (ordL ls) := by
  rw [← fold_app, ← ordL_app, List.take_append_drop]
end Go.Proofs.Ytkmfjlfejdoehaa

set_option linter.unusedVariables false
set_option linter.unusedSimpArgs false
set_option maxRecDepth 8000
set_option maxHeartbeats 4000000
namespace Go.Proofs.Ytkmfjlfejdoehaa
open Go.Eng
abbrev U2T : Ty := .pair (.int .u8) (.int .u8)
theorem modN {n : Int} (h : 0 ≤ n) {L : Nat} (hL : 0 < L) : ∃ i : Nat, i < L ∧ n.tmod (L : Int) = (i : Int) := by
  refine ⟨n.toNat % L, Nat.mod_lt _ hL, ?_⟩
  rw [Int.tmod_eq_emod_of_nonneg h, Int.natCast_emod, Int.toNat_of_nonneg h]
theorem flat_take (ls : List (List Msg)) (n : Nat) : (ls.take n).flatten.length ≤ ls.flatten.length := by
  conv => rhs; rw [← List.take_append_drop n ls, List.flatten_append, List.length_append]
  omega
theorem flat_drop (ls : List (List Msg)) (n : Nat) : (ls.drop n).flatten.length ≤ ls.flatten.length := by
  conv => rhs; rw [← List.take_append_drop n ls, List.flatten_append, List.length_append]
  omega
def sFoldLevels : PSpec := lawSpec [StT, LvT, U2T]
theorem pFoldLevels : PSound Try.prog 4 sFoldLevels := by
  refine psoundW (T := tab) (S := (spOf [(18, sLight.spec (lsOf [])), (8, sLight18.spec (lsOf [])), (10, sAwake18.spec (lsOf [])), (15, sKey.spec (lsOf [])), (14, sSSameR.spec (lsOf []))])) (keep := k4) 10 [(.slot 10, .frz)] (by kernel_rfl) tabOk (spCons (pOk pLight fLight (by decide) lsNil) (spCons (pOk pLight18 fLight18 (by decide) lsNil) (spCons (pOk pAwake18 fAwake18 (by decide) lsNil) (spCons (pOk pKey fKey (by decide) lsNil) (spCons (pOk pSSameR fSSameR (by decide) lsNil) spNil))))) (by kernel_rfl) Try.func4 (by kernel_rfl) (by decide) fun xs hg hp => ?_
  obtain ⟨⟨skey, xs⟩, ls, ⟨n0, n1⟩, ⟨⟩⟩ := xs
  change List UInt8 at skey
  change List Ver at xs
  change List (List Msg) at ls
  change Int at n0 n1
  obtain ⟨-, -, ⟨hn0, hn1⟩, -⟩ := hg
  have hn0 := bdu8 hn0
  have hn1 := bdu8 hn1
  clear hp
  show vfunW tab _ k4 Try.f4 10 [(.slot 10, .frz)] [.agg [.s skey, .sl VerT xs], .sl (.slice MsgT) ls, .agg [.i .u8 n0, .i .u8 n1]] [] _
  refine Ev.out ?_
  repeat' (first | ((with_reducible refine Ev.mk ?_); conv => whnf) | (with_reducible refine And.intro ?_ ?_) | (intro h))
  all_goals (try simp only [decide_eq_true_eq, decide_eq_false_iff_not, beq_iff_eq, bne_iff_ne, beq_eq_false_iff_ne, bne_eq_false_iff_eq, Int.toNat_natCast, ge_iff_le, gt_iff_lt, Bool.not_eq_true', Bool.not_eq_false', Int.not_lt, Int.not_le, ne_eq] at *)
  all_goals (try dsimp only [Ty.den, Ty.dflt, StT, MsgT, VerT, sLight, sLight18] at *)
  all_goals (try simp only [eq4, ne4, eq3, ne3, eq2, ne2, Prod.eta, List.length_cons, List.length_nil, List.length_append, Nat.zero_add] at *)
  all_goals (try simp (disch := omega) only [wrap64] at *)
  all_goals try first | exact leafDraw (by kernel_rfl) | exact Leaf.mk trivial | (refine Leaf.mk ?_; omega) | (refine Leaf.mk ?_; unfold maxLen; omega)
  all_goals try exact Leaf.mk rfl
  all_goals
    have h1 := light18_all ‹lightV18 ls = true›
    have h2 := light18_len ‹lightV18 ls = true›
    have h3 := (light_of ‹light (skey, xs) = true›).2
    dsimp only at h3
    obtain ⟨i, hi, ei⟩ := modN (n := n0) hn0.1 (L := ls.length) (by omega)
    have hli : (ls.getD i []).length ≤ 12 := h1.2 _ (getD_mem (xs := ls) [] hi)
    obtain ⟨k, hk, ek⟩ := modN (n := n1) hn1.1 (L := (ls.getD i []).length + 1) (by omega)
    rw [Int.natCast_add, Int.natCast_one] at ek
    have w1 : IntKind.i64.wrap n0 = n0 := wrap64 (by omega)
    have w2 : IntKind.i64.wrap n1 = n1 := wrap64 (by omega)
    have w3 : IntKind.i64.wrap (((ls.getD i []).length : Int) + 1) = ((ls.getD i []).length : Int) + 1 := wrap64 (by omega)
    have w4 : IntKind.i64.wrap ((i : Int) + 1) = ((i + 1 : Nat) : Int) := by rw [wrap64 (by omega)]; omega
    have w5 : IntKind.i64.wrap ((ls.length : Int) - 1) = ((ls.length - 1 : Nat) : Int) := by rw [wrap64 (by omega)]; omega
    simp only [w1, w2, w3, w4, w5, ei, ek, Int.toNat_natCast, List.take_length, Int.toNat_zero, List.drop_zero] at *
  all_goals first
    | (refine Leaf.mk ?_; omega)
    | exact Leaf.mk ((inK_iff _ _).2 (by show (-9223372036854775808 : Int) ≤ _ ∧ _ ≤ (9223372036854775807 : Int); omega))
    | (refine Leaf.mk ?_; simp only [maxLen, List.length_drop, List.length_take]; omega)
    | exact Leaf.mk (show ls.length ≤ 100 ∧ xs.length + ls.flatten.length ≤ 50000 by omega)
    | (have f1 := flat_drop ls (ls.length - 1)
       refine Leaf.mk (show (ls.drop (ls.length - 1)).length ≤ 100 ∧ xs.length + (ls.drop (ls.length - 1)).flatten.length ≤ 50000 from ⟨?_, by omega⟩)
       rw [List.length_drop]; omega)
    | (have f1 := congrArg List.length (ord_parted (ls := ls) (k := k) hi)
       rw [ordL_len, ordL_len] at f1
       refine Leaf.mk (show (ls.take i ++ [(ls.getD i []).drop k, (ls.getD i []).take k] ++ ls.drop (i + 1)).length ≤ 100 ∧ xs.length + (ls.take i ++ [(ls.getD i []).drop k, (ls.getD i []).take k] ++ ls.drop (i + 1)).flatten.length ≤ 50000 from ⟨?_, by omega⟩)
       simp only [List.length_append, List.length_take, List.length_drop, List.length_cons, List.length_nil]; omega)
    | (have f1 := flat_take ls (ls.length - 1)
       have f2 := flat_drop ls (ls.length - 1)
       have f3 := fold_len (ordL (ls.drop (ls.length - 1))) (skey, xs)
       rw [ordL_len] at f3
       have f4 : (skey, xs).2.length = xs.length := rfl
       refine Leaf.mk (show (ls.take (ls.length - 1)).length ≤ 100 ∧ (foldM (skey, xs) (ordL (ls.drop (ls.length - 1)))).2.length + (ls.take (ls.length - 1)).flatten.length ≤ 50000 from ⟨?_, by omega⟩)
       rw [List.length_take]; omega)
    | (exfalso
       have h9 : sameS (foldM (foldM (skey, xs) (ordL (ls.drop (ls.length - 1)))) (ordL (ls.take (ls.length - 1)))) (foldM (skey, xs) (ordL ls)) = false := ‹_›
       rw [fold_last] at h9
       exact fsameS h9)
    | (exfalso
       have h9 : sameS (foldM (skey, xs) (ordL (ls.take i ++ [(ls.getD i []).drop k, (ls.getD i []).take k] ++ ls.drop (i + 1)))) (foldM (skey, xs) (ordL ls)) = false := ‹_›
       rw [ord_parted hi] at h9
       exact fsameS h9)
    | skip
end Go.Proofs.Ytkmfjlfejdoehaa
