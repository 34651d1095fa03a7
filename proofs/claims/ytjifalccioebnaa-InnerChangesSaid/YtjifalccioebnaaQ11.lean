import Derived.Test.YtjifalccioebnaaQ10
import Derived.WalkKit
import Derived.WalkSpells
import Derived.StillTactics
import Derived.OwnWalk
import Derived.Deep.RegionLaw
import Derived.Laws.Pointers
import Derived.Test.YtjifalccioebnaaQ9
import Derived.Test.YtjifalccioebnaaQ6
import Derived.Test.YtjifalccioebnaaEng4
/- Texts, one behind the other. -/
set_option linter.unusedVariables false
set_option linter.unusedSimpArgs false
set_option maxRecDepth 100000
set_option pp.maxSteps 900
set_option pp.deepTerms false
set_option maxHeartbeats 4000000
namespace Go.Proofs.Ytjifalccioebnaa
open Go.Proofs Go.RowKit Go.Shelf Go.Lib Go.Eng
attribute [local go_sem ↓] Go.wp_at_zero Go.wp_at_succ
theorem add_w (w : World) (F : Nat → Prop) (hF : ∀ b, F b → b < w.heap.size) (pv kv bv : Value) (ps : List (List UInt8)) (ks : List Int) (bs : List (List Msg)) (kind : Int) (key : List UInt8) (txn ts : Int) (gone : Bool) (val : List UInt8) (hp : IPre (ps, ks, bs))
    (h1 : rep w F (.slice .str) ps [pv]) (h2 : rep w F (.slice (.int .i64)) ks [kv]) (h3 : rep w F (.slice (.slice MsgT)) bs [bv]) (hgm : Eng.Good MsgT (kind, key, txn, ts, gone, val)) :
    Calls Try.prog 15 #[.agg #[pv, kv, bv], .agg #[.int .u8 kind, .string ⟨⟨key⟩⟩, .int .i64 txn, .int .i64 ts, .bool gone, .string ⟨⟨val⟩⟩]] w fun e w' =>
      ∃ pv' kv' bv' B rv, e = .returned (.agg #[pv', kv', bv']) ∧ Copied w w' pv' kv' bv' ps ks (addI (ps, ks, bs) (kind, key, txn, ts, gone, val)).2.2 B rv := by
  obtain ⟨i28, hi28, z28, s28, b28⟩ := info_parts info28
  obtain ⟨Ap, cp, np, qp, -⟩ := view_of_rep (g := Gh.at F) hF h1
  obtain ⟨Ak, ck, nk, qk, -⟩ := view_of_rep (g := Gh.at F) hF h2
  obtain ⟨Ab, cb, nb, qb, -⟩ := view_of_rep (g := Gh.at F) hF h3
  obtain rfl := qp.val
  obtain rfl := qk.val
  obtain rfl := qb.val
  have hps := hp.p
  have hks := hp.k
  have hbs := hp.b
  dsimp only at hps hks hbs
  have hn := inn_rep h1 h2 h3
  have fr : ∀ {W : World}, Below w.heap.size w W → ∀ b, F b → b < W.heap.size := fun h b hb => Nat.lt_of_lt_of_le (hF b hb) h.size
  have b0 : ∀ o1 o2 o3 : Go.Obj, Below w.heap.size w (((w.alloc o1).alloc o2).alloc o3) := fun o1 o2 o3 => (((Below.refl _ _).alloc (by simp) _).alloc (by simp) _).alloc (by simp <;> omega) _
  go_enter Try.func15, Try.ntmps15
  go_wp2_with ((go_at_call 32; refine (copied_w _ F (fr (b0 _ _ _)) _ _ _ ps ks bs hp (cell_mono hF (b0 _ _ _) h1) (cell_mono hF (b0 _ _ _) h2) (cell_mono hF (b0 _ _ _) h3)).mono ?_; rintro e w1 ⟨pv', kv', bv', B, rv, rfl, hc⟩)
               obtain ⟨pc, hp1, hp2, hp3⟩ := hc.p
               obtain ⟨kc, hk1, hk2, hk3⟩ := hc.k
               have hb1 := hc.b.top
               obtain ⟨A1, n1, c1, rfl⟩ := ownsRow_slice hp1
               obtain ⟨A2, n2, c2, rfl⟩ := ownsRow_slice hk1
               obtain ⟨A3, n3, c3, rfl⟩ := ownsRow_slice hb1
               have ai := AInv.first hc
               have ain := box3 ai.n
               have aim := box6 ai.m
               have air := box3 ai.r
               have aix := box3 ai.x)
  by_cases hw : wholeI (ps, ks, bs) = true
  · have wc : ∀ {W : World}, Below w.heap.size w W → Calls Try.prog 35 #[.agg #[.slice Ap ps.length cp, .slice Ak ks.length ck, .slice Ab bs.length cb]] W (fun e w' => e = .returned (.bool true) ∧ Below W.heap.size W w') := fun h => by
      have := whole_c (fr h) (cell_mono hF h hn)
      rwa [hw] at this
    by_cases hm : mcheck ((kind, key, txn, ts, gone, val) : Msg) = 0
    · have mc : ∀ {W : World}, Calls Try.prog 39 #[.agg #[.int .u8 kind, .string ⟨⟨key⟩⟩, .int .i64 txn, .int .i64 ts, .bool gone, .string ⟨⟨val⟩⟩]] W (fun e w' => e = .returned (.int .i64 0) ∧ Below W.heap.size W w') := fun {W} => by
        have := mcheck_c (w := W) (m := (kind, key, txn, ts, gone, val)) hgm
        rwa [hm] at this
      go_wp2_with (first
        | ((go_at_call 35; refine (wc ai.below).mono ?_; rintro e w2 ⟨rfl, hw2⟩)
           have ai2 := ai.belowed hw2
           have ai2n := box3 ai2.n
           have ai2m := box6 ai2.m
           have ai2r := box3 ai2.r
           have ai2x := box3 ai2.x)
        | ((go_at_call 39; refine mc.mono ?_; rintro e w3 ⟨rfl, hw3⟩)
           have ai3 := ai2.belowed hw3
           have ai3n := box3 ai3.n
           have ai3m := box6 ai3.m
           have ai3r := box3 ai3.r
           have ai3x := box3 ai3.x))
      obtain ⟨hw1, hw2'⟩ := wholeI_iff.1 hw
      change bs.length = ks.length at hw1
      change ps.length + 1 = ks.length at hw2'
      have hrl : rv.length = bs.length := ai.b.len
      obtain ⟨g, cap, e3, hgB, hgl⟩ := ai.b.top.form (by omega)
      simp only [Value.slice.injEq] at e3
      obtain ⟨rfl, hn3, -⟩ := e3
      rw [hrl] at hn3
      subst hn3
      have hn2 : n2 = ks.length := by
        rcases hk1.2 with ⟨h1, h2⟩ | ⟨_, _, _, h1, _⟩ <;> simp only [Value.slice.injEq] at h1 <;> omega
      subst hn2
      have hlen : bs.length ≤ ks.length ∧ ks.length ≤ bs.length ∧ 0 < bs.length := by omega
      clear hw1 hw2' hrl
      go_loopw [6] (fun i wr => ∃ (j : Nat) (rv : List Value), j ≤ bs.length ∧ i = .int .i64 j ∧ AInv w #[.slice Ap ps.length cp, .slice Ak ks.length ck, .slice Ab bs.length cb] #[.int .u8 kind, .string ⟨⟨key⟩⟩, .int .i64 txn, .int .i64 ts, .bool gone, .string ⟨⟨val⟩⟩] ps ks w1.heap.size B (.slice A1 n1 c1) (.slice A2 ks.length c2) wr (.slice (some ⟨g, 0, none⟩) bs.length c3) rv ((rowsX (aimI (ps, ks, bs) (kind, key, txn, ts, gone, val)) (kind, key, txn, ts, gone, val) bs j).map fun r => r.2)) (fun i _ => bs.length - (intOf i).toNat)
      case atStart =>
        refine ⟨0, rv, Nat.zero_le _, rfl, ?_⟩
        rw [rowsX_zero, List.map_map]
        have : bs.map ((fun r : Bool × List Msg => r.2) ∘ fun b => (true, b)) = bs := by
          conv => rhs; rw [← List.map_id bs]
          rfl
        rw [this]
        exact ai3
      case round =>
        clear ain aim air aix ai2n ai2m ai2r ai2x ai3n ai3m ai3r ai3x ai ai2 ai3 hc hp1 hp2 hp3 hk1 hk2 hk3 hb1 hw2 hw3
        obtain ⟨j, rv', hj, rfl, aj⟩ := hrel
        have ajn := box3 aj.n
        have ajm := box6 aj.m
        have ajr := box3 aj.r
        have ajx := box3 aj.x
        by_cases hlt : j < bs.length
        · have hlk : (j : Int) < (ks.length : Int) := by omega
          by_cases hwd : wide ((kind, key, txn, ts, gone, val) : Msg) = true
          · have dc : ∀ {W : World}, Calls Try.prog 40 #[.agg #[.int .u8 kind, .string ⟨⟨key⟩⟩, .int .i64 txn, .int .i64 ts, .bool gone, .string ⟨⟨val⟩⟩]] W (fun e w' => e = .returned (.bool true) ∧ Below W.heap.size W w') := fun {W} => by
              have := wide_c (w := W) (m := (kind, key, txn, ts, gone, val)) hgm
              rwa [hwd] at this
            go_wp2_with ((go_at_call 40; refine dc.mono ?_; rintro e w4 ⟨rfl, hw4⟩)
                         have a4 := aj.belowed hw4
                         have a4n := box3 a4.n
                         have a4m := box6 a4.m
                         have a4r := box3 a4.r
                         have a4x := box3 a4.x)
            have haim : aimI (ps, ks, bs) (kind, key, txn, ts, gone, val) j = true := by rw [aimI, hwd]; rfl
            have hjr : j < rv'.length := by rw [a4.b.len, List.length_map, rowsX_len]; exact hlt
            obtain ⟨r, c, cells, hri, hRi, hro, hrc⟩ := a4.b.at hjr
            have hcj : c = bs.getD j [] := by
              rw [List.getElem?_map, rowsX_get hlt] at hRi
              simpa using hRi.symm
            obtain ⟨A4, n4, c4, rfl⟩ := ownsRow_slice hro
            have hcl : c.length ≤ 5000 := by rw [hcj]; exact hp.bl j
            have hRj : ((rowsX (aimI (ps, ks, bs) (kind, key, txn, ts, gone, val)) ((kind, key, txn, ts, gone, val) : Msg) bs j).map fun r => r.2).set j (c ++ [((kind, key, txn, ts, gone, val) : Msg)]) = (rowsX (aimI (ps, ks, bs) (kind, key, txn, ts, gone, val)) ((kind, key, txn, ts, gone, val) : Msg) bs (j + 1)).map fun r => r.2 := by
              rw [hcj, ← List.map_set (f := fun r : Bool × List Msg => r.2) (a := (false, bs.getD j [] ++ [((kind, key, txn, ts, gone, val) : Msg)])), rowsX_set haim]
            clear hcj hRi
            have hlo := a4.lo
            have hhi := a4.hi
            have htp := a4.top
            have hgr0 : (Value.slice A4 n4 c4).ownBlock ≠ some g := fun hh => a4.b.far j _ g hri hh rfl
            have hgX : g ≠ w1.heap.size := fun hh => a4.xf (by subst hh; rfl)
            have hgl2 := a4.b.top.lt g rfl
            have hrB : ∀ k, (Value.slice A4 n4 c4).ownBlock = some k → B ≤ k := fun k hk => (a4.b.blk hri hk).1
            have neX : some w1.heap.size ≠ (Value.slice A4 n4 c4).ownBlock := fun hh => a4.rf j _ hri hh.symm
            have neM : some (w.heap.size + 1) ≠ (Value.slice A4 n4 c4).ownBlock := fun hh => by have := hrB _ hh.symm; omega
            have neG : some g ≠ (Value.slice A4 n4 c4).ownBlock := fun hh => hgr0 hh.symm
            have hrl : rv'.length = bs.length := by rw [a4.b.len, List.length_map, rowsX_len]
            have topn : w4.ownsRow B 32 1 (.slice (some ⟨g, 0, none⟩) bs.length c3) bs.length rv' := by
              have := a4.b.top
              rwa [hrl] at this
            have hrow : w4.cell? ⟨g, j, none⟩ = some (.slice A4 n4 c4) := by rw [topn.cellAt j (by omega)]; exact hri
            have hfro : ∀ W : World, ∀ hg : (w4.drew.alloc (.cells #[.int .u8 kind, .string ⟨⟨key⟩⟩, .int .i64 txn, .int .i64 ts, .bool gone, .string ⟨⟨val⟩⟩] 28)).grownBy W (Value.slice A4 n4 c4).ownBlock, W.frozen? ⟨g, j, none⟩ = false ∧ W.cell? ⟨g, j, none⟩ = some (.slice A4 n4 c4) := fun W hg => by
              have t1 := ((World.ownsRow.drew topn).alloc (.cells #[.int .u8 kind, .string ⟨⟨key⟩⟩, .int .i64 txn, .int .i64 ts, .bool gone, .string ⟨⟨val⟩⟩] 28)).kept hg (.inr neG)
              exact ⟨t1.frozenAt j, by rw [t1.cellAt j (by omega)]; exact hri⟩
            have hj0 : (0 : Int) ≤ (j : Int) := Int.natCast_nonneg _
            have hj1 : (j : Int) < (bs.length : Int) := by omega
            have aD := a4.drew
            have aE := aD.grown (World.grownBy_alloc w4.drew (.cells #[.int .u8 kind, .string ⟨⟨key⟩⟩, .int .i64 txn, .int .i64 ts, .bool gone, .string ⟨⟨val⟩⟩] 28) none)
            have aEr : (w4.drew.alloc (.cells #[.int .u8 kind, .string ⟨⟨key⟩⟩, .int .i64 txn, .int .i64 ts, .bool gone, .string ⟨⟨val⟩⟩] 28)).cell? ⟨g, j, none⟩ = some (.slice A4 n4 c4) := by
              rw [(World.grownBy_alloc w4.drew _ none).cell_far _ (by simp; omega) (by simp)]
              exact hrow
            have hroE := (World.ownsRow.drew hro).alloc (.cells #[.int .u8 kind, .string ⟨⟨key⟩⟩, .int .i64 txn, .int .i64 ts, .bool gone, .string ⟨⟨val⟩⟩] 28)
            have stX : ∀ (W : World) (v : Value), (W.setCell ⟨g, j, none⟩ v).cell? ⟨w1.heap.size, 2, none⟩ = W.cell? ⟨w1.heap.size, 2, none⟩ := fun W v => World.cell?_of_block (Below.heap_setCell _ _ _ _ (fun hh => hgX hh.symm))
            have stM : ∀ (i : Nat) (W : World) (v : Value), (W.setCell ⟨g, j, none⟩ v).cell? ⟨w.heap.size + 1, i, none⟩ = W.cell? ⟨w.heap.size + 1, i, none⟩ := fun i W v => World.cell?_of_block (Below.heap_setCell _ _ _ _ (by simp <;> omega))
            have aEx := box3 aE.x
            have aEm := box6 aE.m
            go_region_law
              ((go_loud (refine step_append_lies _ (by rfl) _ _ 32 (by rfl) B 28 i28 _ 6 64 (by kernel_rfl) hi28 z28 s28 b28 rfl (by omega) (.slice A4 n4 c4) c.length cells (by rfl) hroE ⟨w4.heap.size, 0, none⟩ 1 1 [.int .u8 kind, .string ⟨⟨key⟩⟩, .int .i64 txn, .int .i64 ts, .bool gone, .string ⟨⟨val⟩⟩] (by rfl) (by rfl) (World.news_of_block (cs := #[.int .u8 kind, .string ⟨⟨key⟩⟩, .int .i64 txn, .int .i64 ts, .bool gone, .string ⟨⟨val⟩⟩]) (t := 28) (fr := (0, 0)) (Go.heap_alloc_new w4.drew _)) (by simp [Value.oneCell']) (by omega) (by unfold maxLen; omega) (by omega) (Nat.le_trans hhi (Nat.le_of_lt aE.top)) (w4.heap.size + 1) (by simp) ?_)
                intro g6 cap6 wB hownr hgr hatr hltr
                obtain ⟨hf1, hf2⟩ := hfro _ hgr
                have hX2 := hgr.cell (box3 aE.x).2.2.1 neX))
            all_goals
              have hst := aE.step hri hgr (c := c ++ [((kind, key, txn, ts, gone, val) : Msg)]) (by rw [List.length_append]; exact hownr) (reps_append MsgT c [((kind, key, txn, ts, gone, val) : Msg)] cells _ (reps_flat MsgT (by rfl) _ _ hrc) ⟨_, [], (List.append_nil _).symm, msg_rep hgm, rfl⟩)
                (by rcases hatr with h | h
                    · exact .inl h.symm
                    · right; subst h; simp [Value.ownBlock])
              rw [hRj] at hst
              clear hRj
              go_wp2
              go_roundw
              case rel => exact ⟨j + 1, _, by omega, by simp, hst⟩
              case measure => simp [intOf]; omega
          · have hwd' : wide ((kind, key, txn, ts, gone, val) : Msg) = false := by
              cases h : wide ((kind, key, txn, ts, gone, val) : Msg)
              · rfl
              · exact absurd h hwd
            have dc : ∀ {W : World}, Calls Try.prog 40 #[.agg #[.int .u8 kind, .string ⟨⟨key⟩⟩, .int .i64 txn, .int .i64 ts, .bool gone, .string ⟨⟨val⟩⟩]] W (fun e w' => e = .returned (.bool false) ∧ Below W.heap.size W w') := fun {W} => by
              have := wide_c (w := W) (m := (kind, key, txn, ts, gone, val)) hgm
              rwa [hwd'] at this
            have haim0 : aimI (ps, ks, bs) (kind, key, txn, ts, gone, val) j = decide (j = routeI ps key) := by rw [aimI, hwd']; rfl
            by_cases hrt : j = routeI ps key
            · have rc : ∀ {W : World}, Below w.heap.size w W → Calls Try.prog 41 #[.agg #[.slice Ap ps.length cp, .slice Ak ks.length ck, .slice Ab bs.length cb], .string ⟨⟨key⟩⟩] W (fun e w' => e = .returned (.int .i64 j) ∧ Below W.heap.size W w') := fun h => by
                have := route_c (fr h) (cell_mono hF h hn) hgm.2.1
                rwa [show ((ps, ks, bs) : Inn).1 = ps from rfl, ← hrt] at this
              have haim : aimI (ps, ks, bs) (kind, key, txn, ts, gone, val) j = true := by rw [haim0]; exact decide_eq_true hrt
              clear hrt haim0
              go_wp2_with (first
                | ((go_at_call 40; refine dc.mono ?_; rintro e w4 ⟨rfl, hw4⟩)
                   have a4 := aj.belowed hw4
                   have a4n := box3 a4.n
                   have a4m := box6 a4.m
                   have a4r := box3 a4.r
                   have a4x := box3 a4.x)
                | ((go_at_call 41; refine (rc a4.below).mono ?_; rintro e w5 ⟨rfl, hw5⟩)
                   have a5 := a4.belowed hw5
                   have a5n := box3 a5.n
                   have a5m := box6 a5.m
                   have a5r := box3 a5.r
                   have a5x := box3 a5.x))
              clear a4n a4m a4r a4x
              have hjr : j < rv'.length := by rw [a5.b.len, List.length_map, rowsX_len]; exact hlt
              obtain ⟨r, c, cells, hri, hRi, hro, hrc⟩ := a5.b.at hjr
              have hcj : c = bs.getD j [] := by
                rw [List.getElem?_map, rowsX_get hlt] at hRi
                simpa using hRi.symm
              obtain ⟨A4, n4, c4, rfl⟩ := ownsRow_slice hro
              have hcl : c.length ≤ 5000 := by rw [hcj]; exact hp.bl j
              have hRj : ((rowsX (aimI (ps, ks, bs) (kind, key, txn, ts, gone, val)) ((kind, key, txn, ts, gone, val) : Msg) bs j).map fun r => r.2).set j (c ++ [((kind, key, txn, ts, gone, val) : Msg)]) = (rowsX (aimI (ps, ks, bs) (kind, key, txn, ts, gone, val)) ((kind, key, txn, ts, gone, val) : Msg) bs (j + 1)).map fun r => r.2 := by
                rw [hcj, ← List.map_set (f := fun r : Bool × List Msg => r.2) (a := (false, bs.getD j [] ++ [((kind, key, txn, ts, gone, val) : Msg)])), rowsX_set haim]
              clear hcj hRi
              have hlo := a5.lo
              have hhi := a5.hi
              have htp := a5.top
              have hgr0 : (Value.slice A4 n4 c4).ownBlock ≠ some g := fun hh => a5.b.far j _ g hri hh rfl
              have hgX : g ≠ w1.heap.size := fun hh => a5.xf (by subst hh; rfl)
              have hgl2 := a5.b.top.lt g rfl
              have hrB : ∀ k, (Value.slice A4 n4 c4).ownBlock = some k → B ≤ k := fun k hk => (a5.b.blk hri hk).1
              have neX : some w1.heap.size ≠ (Value.slice A4 n4 c4).ownBlock := fun hh => a5.rf j _ hri hh.symm
              have neM : some (w.heap.size + 1) ≠ (Value.slice A4 n4 c4).ownBlock := fun hh => by have := hrB _ hh.symm; omega
              have neG : some g ≠ (Value.slice A4 n4 c4).ownBlock := fun hh => hgr0 hh.symm
              have hrl : rv'.length = bs.length := by rw [a5.b.len, List.length_map, rowsX_len]
              have topn : w5.ownsRow B 32 1 (.slice (some ⟨g, 0, none⟩) bs.length c3) bs.length rv' := by
                have := a5.b.top
                rwa [hrl] at this
              have hrow : w5.cell? ⟨g, j, none⟩ = some (.slice A4 n4 c4) := by rw [topn.cellAt j (by omega)]; exact hri
              have hfro : ∀ W : World, ∀ hg : (w5.drew.alloc (.cells #[.int .u8 kind, .string ⟨⟨key⟩⟩, .int .i64 txn, .int .i64 ts, .bool gone, .string ⟨⟨val⟩⟩] 28)).grownBy W (Value.slice A4 n4 c4).ownBlock, W.frozen? ⟨g, j, none⟩ = false ∧ W.cell? ⟨g, j, none⟩ = some (.slice A4 n4 c4) := fun W hg => by
                have t1 := ((World.ownsRow.drew topn).alloc (.cells #[.int .u8 kind, .string ⟨⟨key⟩⟩, .int .i64 txn, .int .i64 ts, .bool gone, .string ⟨⟨val⟩⟩] 28)).kept hg (.inr neG)
                exact ⟨t1.frozenAt j, by rw [t1.cellAt j (by omega)]; exact hri⟩
              have hj0 : (0 : Int) ≤ (j : Int) := Int.natCast_nonneg _
              have hj1 : (j : Int) < (bs.length : Int) := by omega
              have aD := a5.drew
              have aE := aD.grown (World.grownBy_alloc w5.drew (.cells #[.int .u8 kind, .string ⟨⟨key⟩⟩, .int .i64 txn, .int .i64 ts, .bool gone, .string ⟨⟨val⟩⟩] 28) none)
              have aEr : (w5.drew.alloc (.cells #[.int .u8 kind, .string ⟨⟨key⟩⟩, .int .i64 txn, .int .i64 ts, .bool gone, .string ⟨⟨val⟩⟩] 28)).cell? ⟨g, j, none⟩ = some (.slice A4 n4 c4) := by
                rw [(World.grownBy_alloc w5.drew _ none).cell_far _ (by simp; omega) (by simp)]
                exact hrow
              have hroE := (World.ownsRow.drew hro).alloc (.cells #[.int .u8 kind, .string ⟨⟨key⟩⟩, .int .i64 txn, .int .i64 ts, .bool gone, .string ⟨⟨val⟩⟩] 28)
              have stX : ∀ (W : World) (v : Value), (W.setCell ⟨g, j, none⟩ v).cell? ⟨w1.heap.size, 2, none⟩ = W.cell? ⟨w1.heap.size, 2, none⟩ := fun W v => World.cell?_of_block (Below.heap_setCell _ _ _ _ (fun hh => hgX hh.symm))
              have stM : ∀ (i : Nat) (W : World) (v : Value), (W.setCell ⟨g, j, none⟩ v).cell? ⟨w.heap.size + 1, i, none⟩ = W.cell? ⟨w.heap.size + 1, i, none⟩ := fun i W v => World.cell?_of_block (Below.heap_setCell _ _ _ _ (by simp <;> omega))
              have aEx := box3 aE.x
              have aEm := box6 aE.m
              go_region_law
                ((go_loud (refine step_append_lies _ (by rfl) _ _ 32 (by rfl) B 28 i28 _ 6 64 (by kernel_rfl) hi28 z28 s28 b28 rfl (by omega) (.slice A4 n4 c4) c.length cells (by rfl) hroE ⟨w5.heap.size, 0, none⟩ 1 1 [.int .u8 kind, .string ⟨⟨key⟩⟩, .int .i64 txn, .int .i64 ts, .bool gone, .string ⟨⟨val⟩⟩] (by rfl) (by rfl) (World.news_of_block (cs := #[.int .u8 kind, .string ⟨⟨key⟩⟩, .int .i64 txn, .int .i64 ts, .bool gone, .string ⟨⟨val⟩⟩]) (t := 28) (fr := (0, 0)) (Go.heap_alloc_new w5.drew _)) (by simp [Value.oneCell']) (by omega) (by unfold maxLen; omega) (by omega) (Nat.le_trans hhi (Nat.le_of_lt aE.top)) (w5.heap.size + 1) (by simp) ?_)
                  intro g6 cap6 wB hownr hgr hatr hltr
                  obtain ⟨hf1, hf2⟩ := hfro _ hgr
                  have hX2 := hgr.cell (box3 aE.x).2.2.1 neX))
              all_goals
                have hst := aE.step hri hgr (c := c ++ [((kind, key, txn, ts, gone, val) : Msg)]) (by rw [List.length_append]; exact hownr) (reps_append MsgT c [((kind, key, txn, ts, gone, val) : Msg)] cells _ (reps_flat MsgT (by rfl) _ _ hrc) ⟨_, [], (List.append_nil _).symm, msg_rep hgm, rfl⟩)
                  (by rcases hatr with h | h
                      · exact .inl h.symm
                      · right; subst h; simp [Value.ownBlock])
                rw [hRj] at hst
                clear hRj
                go_wp2
                go_roundw
                case rel => exact ⟨j + 1, _, by omega, by simp, hst⟩
                case measure => simp [intOf]; omega
            · have rc : ∃ q : Int, ¬ q = (j : Int) ∧ ∀ {W : World}, Below w.heap.size w W → Calls Try.prog 41 #[.agg #[.slice Ap ps.length cp, .slice Ak ks.length ck, .slice Ab bs.length cb], .string ⟨⟨key⟩⟩] W (fun e w' => e = .returned (.int .i64 q) ∧ Below W.heap.size W w') :=
                ⟨(routeI ps key : Nat), by omega, fun h => route_c (fr h) (cell_mono hF h hn) hgm.2.1⟩
              obtain ⟨q, hq, rc⟩ := rc
              have haim : aimI (ps, ks, bs) (kind, key, txn, ts, gone, val) j = false := by rw [haim0]; exact decide_eq_false hrt
              clear hrt haim0
              go_wp2_with (first
                | ((go_at_call 40; refine dc.mono ?_; rintro e w4 ⟨rfl, hw4⟩)
                   have a4 := aj.belowed hw4
                   have a4n := box3 a4.n
                   have a4m := box6 a4.m
                   have a4r := box3 a4.r
                   have a4x := box3 a4.x)
                | ((go_at_call 41; refine (rc a4.below).mono ?_; rintro e w5 ⟨rfl, hw5⟩)
                   have a5 := a4.belowed hw5
                   have a5n := box3 a5.n
                   have a5m := box6 a5.m
                   have a5r := box3 a5.r
                   have a5x := box3 a5.x))
              go_roundw
              case rel => exact ⟨j + 1, _, by omega, by simp, by rw [rowsX_no haim]; exact a5⟩
              case measure => simp [intOf]; omega
        · have hjl : j = bs.length := by omega
          subst hjl
          have hcl := (grown_cells aj.r (.slice A1 n1 c1) (.slice A2 ks.length c2) (.slice (some ⟨g, 0, none⟩) bs.length c3))
          have hres := aj.result (grown_set3 wr (w.heap.size + 1 + 1) (.slice A1 n1 c1) (.slice A2 ks.length c2) (.slice (some ⟨g, 0, none⟩) bs.length c3))
          rw [rowsX_end] at hres
          have had : addI (ps, ks, bs) (kind, key, txn, ts, gone, val) = (ps, ks, addB (aimI (ps, ks, bs) (kind, key, txn, ts, gone, val)) (kind, key, txn, ts, gone, val) bs) := by rw [addI, if_pos ⟨hw, hm⟩]
          go_wp2
          (try simp only [Exit.inBlock, Exit.then])
          refine bodyPost_ret (v := .agg #[.slice A1 n1 c1, .slice A2 ks.length c2, .slice (some ⟨g, 0, none⟩) bs.length c3]) ?_ rfl ⟨_, _, _, _, _, rfl, by rw [had]; exact hres⟩
          rw [results_one (p := 4) (ty := 26) (by kernel_rfl)]
          have hb := box3 hcl
          go_simp
    · have hm' : ∃ c, mcheck ((kind, key, txn, ts, gone, val) : Msg) = c ∧ c ≠ 0 := ⟨_, rfl, hm⟩
      obtain ⟨c, hc0, hc1⟩ := hm'
      have mc : ∀ {W : World}, Calls Try.prog 39 #[.agg #[.int .u8 kind, .string ⟨⟨key⟩⟩, .int .i64 txn, .int .i64 ts, .bool gone, .string ⟨⟨val⟩⟩]] W (fun e w' => e = .returned (.int .i64 c) ∧ Below W.heap.size W w') := fun {W} => by
        have := mcheck_c (w := W) (m := (kind, key, txn, ts, gone, val)) hgm
        rwa [hc0] at this
      go_wp2_with (first
        | ((go_at_call 35; refine (wc ai.below).mono ?_; rintro e w2 ⟨rfl, hw2⟩)
           have ai2 := ai.belowed hw2
           have ai2n := box3 ai2.n
           have ai2m := box6 ai2.m
           have ai2r := box3 ai2.r
           have ai2x := box3 ai2.x)
        | ((go_at_call 39; refine mc.mono ?_; rintro e w3 ⟨rfl, hw3⟩)
           have ai3 := ai2.belowed hw3
           have ai3n := box3 ai3.n
           have ai3m := box6 ai3.m
           have ai3r := box3 ai3.r
           have ai3x := box3 ai3.x))
      have hcl := (grown_cells ai3.r (.slice A1 n1 c1) (.slice A2 n2 c2) (.slice A3 n3 c3))
      have hres := ai3.result (grown_set3 w3 (w.heap.size + 1 + 1) (.slice A1 n1 c1) (.slice A2 n2 c2) (.slice A3 n3 c3))
      have had : addI (ps, ks, bs) (kind, key, txn, ts, gone, val) = (ps, ks, bs) := by rw [addI, if_neg (fun h => hm h.2)]
      rw [had]
      (try simp only [Exit.inBlock, Exit.then])
      refine bodyPost_ret (v := .agg #[.slice A1 n1 c1, .slice A2 n2 c2, .slice A3 n3 c3]) ?_ rfl ⟨_, _, _, _, _, rfl, hres⟩
      rw [results_one (p := 4) (ty := 26) (by kernel_rfl)]
      have hb := box3 hcl
      go_simp
  · have hw' : wholeI (ps, ks, bs) = false := by
      cases h : wholeI (ps, ks, bs)
      · rfl
      · exact absurd h hw
    have wc : ∀ {W : World}, Below w.heap.size w W → Calls Try.prog 35 #[.agg #[.slice Ap ps.length cp, .slice Ak ks.length ck, .slice Ab bs.length cb]] W (fun e w' => e = .returned (.bool false) ∧ Below W.heap.size W w') := fun h => by
      have := whole_c (fr h) (cell_mono hF h hn)
      rwa [hw'] at this
    go_wp2_with ((go_at_call 35; refine (wc ai.below).mono ?_; rintro e w2 ⟨rfl, hw2⟩)
                 have ai2 := ai.belowed hw2
                 have ai2n := box3 ai2.n
                 have ai2m := box6 ai2.m
                 have ai2r := box3 ai2.r
                 have ai2x := box3 ai2.x)
    have hcl := (grown_cells ai2.r (.slice A1 n1 c1) (.slice A2 n2 c2) (.slice A3 n3 c3))
    have hres := ai2.result (grown_set3 w2 (w.heap.size + 1 + 1) (.slice A1 n1 c1) (.slice A2 n2 c2) (.slice A3 n3 c3))
    have had : addI (ps, ks, bs) (kind, key, txn, ts, gone, val) = (ps, ks, bs) := by rw [addI, if_neg (fun h => hw h.1)]
    rw [had]
    (try simp only [Exit.inBlock, Exit.then])
    refine bodyPost_ret (v := .agg #[.slice A1 n1 c1, .slice A2 n2 c2, .slice A3 n3 c3]) ?_ rfl ⟨_, _, _, _, _, rfl, hres⟩
    rw [results_one (p := 4) (ty := 26) (by kernel_rfl)]
    have hb := box3 hcl
    go_simp
end Go.Proofs.Ytjifalccioebnaa

set_option linter.unusedVariables false
set_option linter.unusedSimpArgs false
set_option maxRecDepth 8000
set_option maxHeartbeats 4000000
namespace Go.Proofs.Ytjifalccioebnaa
open Go.Eng
def sAddR : PSpec := ⟨[.d InT, .d MsgT], [⟨true, [.d InT]⟩], fun x => IPre x.1, fun x => ((addI x.1 x.2.1, ()), ())⟩
theorem fAddR : FnOk Try.prog 15 := ⟨_, Try.func15, by decide, rfl⟩
theorem addI_two (n : Inn) (m : Msg) : addI n m = (n.1, n.2.1, (addI n m).2.2) := by
  rw [addI]
  split <;> rfl
theorem pAddR : PSound Try.prog 15 sAddR := by
  intro w F xs vals hF hv hpre
  have hgd := argsV_good _ _ _ hv
  obtain ⟨⟨ps, ks, bs⟩, ⟨kind, key, txn, ts, gone, val⟩, ⟨⟩⟩ := xs
  have hgm : Eng.Good MsgT (kind, key, txn, ts, gone, val) := hgd.2.1
  change RVs _ _ _ [.agg [.sl .str ps, .sl (.int .i64) ks, .sl (.slice MsgT) bs], .agg [.i .u8 kind, .s key, .i .i64 txn, .i .i64 ts, .b gone, .s val]] _ at hv
  simp only [RVs, RV] at hv
  obtain ⟨x, _, rfl, ⟨vs, rfl, a, _, rfl, h1, b, _, rfl, h2, c, _, rfl, h3, rfl⟩, y, _, rfl, ⟨us, rfl, m1, _, rfl, ⟨rfl, -⟩, m2, _, rfl, ⟨rfl, -⟩, m3, _, rfl, ⟨rfl, -⟩, m4, _, rfl, ⟨rfl, -⟩, m5, _, rfl, rfl, m6, _, rfl, ⟨rfl, -⟩, rfl⟩, rfl⟩ := hv
  refine (add_w w F hF a b c ps ks bs kind key txn ts gone val hpre h1 h2 h3 hgm).mono ?_
  rintro e w' ⟨pv', kv', bv', B, rv, rfl, hc⟩
  refine ⟨.agg #[pv', kv', bv'], Gh.at (fun c => F c ∨ (w.heap.size ≤ c ∧ c < w'.heap.size)), rfl, ?_⟩
  have e : sAddR.fn ((ps, ks, bs), (kind, key, txn, ts, gone, val), PUnit.unit) = (((ps, ks, (addI (ps, ks, bs) (kind, key, txn, ts, gone, val)).2.2), ()), ()) := by
    show ((addI (ps, ks, bs) (kind, key, txn, ts, gone, val), ()), ()) = _
    rw [addI_two (ps, ks, bs) (kind, key, txn, ts, gone, val)]
  rw [e]
  exact hc.data hF
def sHasR : PSpec := sHas
theorem fHasR : FnOk Try.prog 33 := ⟨_, Try.func33, by decide, rfl⟩
theorem pHasR : PSound Try.prog 33 sHasR := by
  refine psound (T := tab) (S := (spOf [(35, sWholeR.spec (lsOf []))])) (keep := k33) (by kernel_rfl) tabOk (spCons (pOk pWholeR fWholeR (by decide) lsNil) spNil) (by kernel_rfl) Try.func33 (by kernel_rfl) (by decide) fun xs hg hp => ?_
  obtain ⟨⟨ps, ks, bs⟩, i, ⟨⟩⟩ := xs
  clear hg
  change List (List UInt8) at ps
  change List Int at ks
  change List (List Msg) at bs
  change Int at i
  change IPre (ps, ks, bs) at hp
  have hpp := hp.p
  have hpk := hp.k
  have hpb := hp.b
  have hbl := fun i => hp.bl i
  dsimp only at hpp hpk hpb hbl
  show vfun tab _ k33 Try.f33 [.agg [.sl .str ps, .sl (.int .i64) ks, .sl (.slice MsgT) bs], .i .i64 i] [] _
  refine Ev.out ?_
  repeat' (first | ((with_reducible refine Ev.mk ?_); conv => whnf) | (with_reducible refine And.intro ?_ ?_) | (intro h))
  all_goals (try simp only [decide_eq_true_eq, decide_eq_false_iff_not, beq_iff_eq, bne_iff_ne, beq_eq_false_iff_ne, bne_eq_false_iff_eq, Int.toNat_natCast, ge_iff_le, gt_iff_lt, Bool.not_eq_true', Bool.not_eq_false', Int.not_lt, Int.not_le, ne_eq] at *)
  all_goals (try dsimp only [Ty.den, Ty.dflt, InT, sWholeR, sWhole] at *)
  all_goals (try simp only [eq4, ne4, eq3, ne3, eq2, ne2, Prod.eta, List.length_cons, List.length_nil, List.length_append, Nat.zero_add] at *)
  all_goals (try simp (disch := omega) only [wrap64] at *)
  all_goals try first | exact leafDraw (by kernel_rfl) | exact Leaf.mk trivial | (refine Leaf.mk ?_; omega) | (refine Leaf.mk ?_; unfold maxLen; omega)
  all_goals
    refine Leaf.mk (ret1 (show _ = hasI (ps, ks, bs) i from ?_))
    rw [Bool.eq_iff_iff, hasI_iff]
    dsimp only
    simp_all
  omega
def sTakeR : PSpec := sITake
theorem fTakeR : FnOk Try.prog 9 := ⟨_, Try.func9, by decide, rfl⟩
theorem pTakeR : PSound Try.prog 9 sTakeR := by
  refine psound (T := tab) (S := (spOf [(32, sCopiedO.spec (lsOf [])), (33, sHasR.spec (lsOf []))])) (keep := k9) (by kernel_rfl) tabOk (spCons (pOk pCopiedO fCopiedO (by decide) lsNil) (spCons (pOk pHasR fHasR (by decide) lsNil) spNil)) (by kernel_rfl) Try.func9 (by kernel_rfl) (by decide) fun xs hg hp => ?_
  obtain ⟨⟨ps, ks, bs⟩, i, ⟨⟩⟩ := xs
  clear hg
  change List (List UInt8) at ps
  change List Int at ks
  change List (List Msg) at bs
  change Int at i
  change IPre (ps, ks, bs) at hp
  have hpp := hp.p
  have hpk := hp.k
  have hpb := hp.b
  have hbl := fun i => hp.bl i
  dsimp only at hpp hpk hpb hbl
  show vfun tab _ k9 Try.f9 [.agg [.sl .str ps, .sl (.int .i64) ks, .sl (.slice MsgT) bs], .i .i64 i] [] _
  refine Ev.out ?_
  repeat' (first | ((with_reducible refine Ev.mk ?_); conv => whnf) | (with_reducible refine And.intro ?_ ?_) | (intro h))
  all_goals (try simp only [decide_eq_true_eq, decide_eq_false_iff_not, beq_iff_eq, bne_iff_ne, beq_eq_false_iff_ne, bne_eq_false_iff_eq, Int.toNat_natCast, ge_iff_le, gt_iff_lt, Bool.not_eq_true', Bool.not_eq_false', Int.not_lt, Int.not_le, ne_eq] at *)
  all_goals (try dsimp only [Ty.den, Ty.dflt, InT, sCopiedO, sHasR, sHas] at *)
  all_goals (try simp only [eq4, ne4, eq3, ne3, eq2, ne2, Prod.eta, List.length_cons, List.length_nil, List.length_append, Nat.zero_add] at *)
  all_goals (try simp (disch := omega) only [wrap64] at *)
  all_goals try first | exact leafDraw (by kernel_rfl) | exact Leaf.mk trivial | (refine Leaf.mk ?_; omega) | (refine Leaf.mk ?_; unfold maxLen; omega)
  all_goals first
    | exact Leaf.mk hp
    | skip
  · refine Leaf.mk (retTk (u := ([], (ps, ks, bs))) (v := takeI (ps, ks, bs) i) ?_)
    rw [takeI, if_neg (not_of_false ‹_›)]
  all_goals
    obtain ⟨hw, hi0, hi1⟩ := hasI_iff.1 (show hasI (ps, ks, bs) i = true from ‹_›)
    obtain ⟨w1, w2⟩ := wholeI_iff.1 hw
    dsimp only at hi1 w1 w2
  all_goals first
    | (refine Leaf.mk ?_; omega)
    | (refine Leaf.mk (retTk (u := (bs.getD i.toNat [], (ps, ks, bs.set i.toNat []))) (v := takeI (ps, ks, bs) i) ?_)
       rw [takeI, if_pos ‹_›])
def sRenewR : PSpec := sIRenew
theorem fRenewR : FnOk Try.prog 17 := ⟨_, Try.func17, by decide, rfl⟩
theorem pRenewR : PSound Try.prog 17 sRenewR := by
  refine psound (T := tab) (S := (spOf [(32, sCopiedO.spec (lsOf [])), (33, sHasR.spec (lsOf []))])) (keep := k17) (by kernel_rfl) tabOk (spCons (pOk pCopiedO fCopiedO (by decide) lsNil) (spCons (pOk pHasR fHasR (by decide) lsNil) spNil)) (by kernel_rfl) Try.func17 (by kernel_rfl) (by decide) fun xs hg hp => ?_
  obtain ⟨n, i, kid, ⟨⟩⟩ := xs
  obtain ⟨ps, ks, bs⟩ := n
  clear hg
  change List (List UInt8) at ps
  change List Int at ks
  change List (List Msg) at bs
  change Int at i kid
  change IPre (ps, ks, bs) at hp
  have hpk := hp.k
  dsimp only at hpk
  show vfun tab _ k17 Try.f17 [.agg [.sl .str ps, .sl (.int .i64) ks, .sl (.slice MsgT) bs], .i .i64 i, .i .i64 kid] [] _
  refine Ev.out ?_
  repeat' (first | ((with_reducible refine Ev.mk ?_); conv => whnf) | (with_reducible refine And.intro ?_ ?_) | (intro h))
  all_goals (try simp only [decide_eq_true_eq, decide_eq_false_iff_not, beq_iff_eq, bne_iff_ne, beq_eq_false_iff_ne, bne_eq_false_iff_eq, Int.toNat_natCast, ge_iff_le, gt_iff_lt, Bool.not_eq_true', Bool.not_eq_false', Int.not_lt, Int.not_le, ne_eq] at *)
  all_goals (try dsimp only [Ty.den, Ty.dflt, InT, sCopiedO, sHasR, sHas] at *)
  all_goals (try simp only [eq4, ne4, eq3, ne3, eq2, ne2, Prod.eta, List.length_cons, List.length_nil, List.length_append, Nat.zero_add] at *)
  all_goals (try simp (disch := omega) only [wrap64] at *)
  all_goals try first | exact leafDraw (by kernel_rfl) | exact Leaf.mk trivial | (refine Leaf.mk ?_; omega) | (refine Leaf.mk ?_; unfold maxLen; omega)
  all_goals first
    | exact Leaf.mk hp
    | skip
  all_goals first
    | (refine Leaf.mk (retIn (u := (ps, ks, bs)) (v := renewI (ps, ks, bs) i kid) ?_)
       rw [renewI, if_neg (not_of_false (show hasI (ps, ks, bs) i = false by assumption))]; done)
    | skip
  all_goals
    obtain ⟨hw, hi0, hi1⟩ := hasI_iff.1 (show hasI (ps, ks, bs) i = true from ‹_›)
    obtain ⟨w1, w2⟩ := wholeI_iff.1 hw
    dsimp only at hi1 w1 w2
  all_goals first
    | (refine Leaf.mk ?_; omega)
    | (refine Leaf.mk (retIn (u := (ps, ks.set i.toNat kid, bs)) (v := renewI (ps, ks, bs) i kid) ?_)
       rw [renewI, if_pos (show hasI (ps, ks, bs) i = true by assumption)])
def sSplitR : PSpec := sISplit
theorem fSplitR : FnOk Try.prog 11 := ⟨_, Try.func11, by decide, rfl⟩
theorem pSplitR : PSound Try.prog 11 sSplitR := by
  refine psound (T := tab) (S := (spOf [(32, sCopied.spec (lsOf [])), (35, sWholeR.spec (lsOf []))])) (keep := k11) (by kernel_rfl) tabOk (spCons (pOk pCopied fCopied (by decide) lsNil) (spCons (pOk pWholeR fWholeR (by decide) lsNil) spNil)) (by kernel_rfl) Try.func11 (by kernel_rfl) (by decide) fun xs hg hp => ?_
  obtain ⟨⟨ps, ks, bs⟩, ⟨⟩⟩ := xs
  clear hg
  change List (List UInt8) at ps
  change List Int at ks
  change List (List Msg) at bs
  change IPre (ps, ks, bs) at hp
  have hpp := hp.p
  have hpk := hp.k
  have hpb := hp.b
  have hbl := fun i => hp.bl i
  dsimp only at hpp hpk hpb hbl
  show vfun tab _ k11 Try.f11 [.agg [.sl .str ps, .sl (.int .i64) ks, .sl (.slice MsgT) bs]] [] _
  refine Ev.out ?_
  repeat' (first | ((with_reducible refine Ev.mk ?_); conv => whnf) | (with_reducible refine And.intro ?_ ?_) | (intro h))
  all_goals (try simp only [decide_eq_true_eq, decide_eq_false_iff_not, beq_iff_eq, bne_iff_ne, beq_eq_false_iff_ne, bne_eq_false_iff_eq, Int.toNat_natCast, ge_iff_le, gt_iff_lt, Bool.not_eq_true', Bool.not_eq_false', Int.not_lt, Int.not_le, ne_eq] at *)
  all_goals (try dsimp only [Ty.den, Ty.dflt, InT, sCopied, sWholeR, sWhole] at *)
  all_goals (try simp only [eq4, ne4, eq3, ne3, eq2, ne2, Prod.eta, List.length_cons, List.length_nil, List.length_append, Nat.zero_add] at *)
  all_goals (try simp (disch := omega) only [wrap64] at *)
  all_goals try first | exact leafDraw (by kernel_rfl) | exact Leaf.mk trivial | (refine Leaf.mk ?_; omega) | (refine Leaf.mk ?_; unfold maxLen; omega)
  all_goals first
    | exact Leaf.mk hp
    | exact Leaf.mk (ipre_cut hp _ _ _ _ _ _)
    | (refine Leaf.mk (retSp (u := ((ps, ks, bs), ([], [], []), [])) (v := splitI (ps, ks, bs)) ?_)
       rw [splitI, if_neg (fun hc => by have h1 := hc.1; rw [show wholeI (ps, ks, bs) = false by assumption] at h1; cases h1)]; done)
    | (refine Leaf.mk (retSp (u := ((ps, ks, bs), ([], [], []), [])) (v := splitI (ps, ks, bs)) ?_)
       rw [splitI, if_neg (fun hc => by have h1 := hc.2; dsimp only at h1; omega)]; done)
    | skip
  all_goals
    have hw := wholeI_iff.1 (show wholeI (ps, ks, bs) = true by assumption)
    have w1 := hw.1
    have w2 := hw.2
    dsimp only at w1 w2
    have e1 := wrapHalf (n := ks.length) (by omega)
    have e2 : IntKind.i64.wrap (((ks.length / 2 : Nat) : Int) - 1) = ((ks.length / 2 - 1 : Nat) : Int) := by rw [wrap64 (by omega)]; omega
    rw [e1]
    try rw [e2]
  all_goals first
    | (refine Leaf.mk ?_; omega)
    | (refine Leaf.mk ?_; unfold maxLen; omega)
    | skip
  all_goals
    refine Leaf.mk (retSp (u := ((_, _, _), (_, _, _), _)) (v := splitI (ps, ks, bs)) ?_)
    rw [splitI, if_pos ⟨by assumption, by dsimp only; omega⟩]
    simp only [Int.toNat_natCast, List.take_length, Int.toNat_zero, List.drop_zero]
    all_goals rfl
end Go.Proofs.Ytjifalccioebnaa

set_option linter.unusedVariables false
set_option linter.unusedSimpArgs false
set_option maxRecDepth 8000
set_option maxHeartbeats 4000000
namespace Go.Proofs.Ytjifalccioebnaa
open Go.Eng
theorem pOverlapsS : XOk Try.prog 65 xOverlaps := xOverlaps_ok tabOk Try.func65 (by kernel_rfl) (by kernel_rfl) (by kernel_rfl) (by kernel_rfl) (t := 22) rfl rfl (by rfl)
theorem pOverlapsI : XOk Try.prog 67 xOverlaps := xOverlaps_ok tabOk Try.func67 (by kernel_rfl) (by kernel_rfl) (by kernel_rfl) (by kernel_rfl) (t := 23) rfl rfl (by rfl)
theorem pOverlapsB : XOk Try.prog 69 xOverlaps := xOverlaps_ok tabOk Try.func69 (by kernel_rfl) (by kernel_rfl) (by kernel_rfl) (by kernel_rfl) (t := 24) rfl rfl (by rfl)
def sInsertS : OSpec := ⟨9, .str, [.d (.int .i64), .o 9 .str], fun xs y => 0 ≤ y.1 ∧ y.1 ≤ (xs.length : Int) ∧ xs.length + List.length y.2.1 ≤ 1000000, fun xs y => xs.take y.1.toNat ++ (y.2.1 ++ xs.drop y.1.toNat)⟩
theorem fInsertS : FnOk Try.prog 42 := ⟨_, Try.func42, by decide, rfl⟩
theorem pInsertS : SpecOk Try.prog 42 sInsertS.spec := by
  refine oOk (T := tab) (S := (spOf [(65, xOverlaps)])) (keep := k42) (by kernel_rfl) tabOk (spCons (.inr pOverlapsS) spNil) (by kernel_rfl) Try.func42 (by kernel_rfl) (by decide) (by decide) fun xs ys k hg hgt hmax hp => ?_
  obtain ⟨i, vs, ⟨⟩⟩ := ys
  change List (List UInt8) at xs
  change List (List UInt8) at vs
  change Int at i
  change 0 ≤ i ∧ i ≤ (xs.length : Int) ∧ xs.length + vs.length ≤ 1000000 at hp
  clear hg hgt
  obtain ⟨i, rfl⟩ := Int.eq_ofNat_of_zero_le hp.1
  show vfun tab _ k42 Try.f42 [.vw 0 .str 0 xs.length true, .i .i64 i, .own 1] [(0, .raw 9 .str (xs.map some ++ List.replicate k (none : Option (Ty.den .str)))), (1, .arr 9 .str vs)] _
  refine Ev.out ?_
  repeat' (first | ((with_reducible refine Ev.mk ?_); conv => whnf) | (with_reducible refine And.intro ?_ ?_) | (intro h))
  all_goals (try simp only [decide_eq_true_eq, decide_eq_false_iff_not, beq_iff_eq, bne_iff_ne, beq_eq_false_iff_ne, bne_eq_false_iff_eq, Int.toNat_natCast, ge_iff_le, gt_iff_lt, Bool.not_eq_true', Bool.not_eq_false', Int.not_lt, Int.not_le, ne_eq] at *)
  all_goals (try dsimp only [Ty.den, Ty.dflt, .str] at *)
  all_goals (try simp only [eq4, ne4, eq3, ne3, eq2, ne2, Prod.eta, List.length_cons, List.length_nil, List.length_append, Nat.zero_add] at *)
  all_goals (try simp (disch := omega) only [wrap64] at *)
  all_goals (try simp only [Int.sub_zero, Int.toNat_natCast, Int.toNat_sub, Int.toNat_zero, Nat.zero_add, toNat_add', toNat_addsub, toNat_subadd, List.length_map, List.length_append, List.length_replicate, List.length_take, List.length_drop] at *)
  all_goals first | omega | skip
  all_goals try first | exact leafDraw (by kernel_rfl) | exact Leaf.mk trivial | (refine Leaf.mk ?_; omega) | (refine Leaf.mk ?_; unfold maxLen; omega)
  all_goals first
    | (refine Leaf.mk ?_; unfold maxLen at *; omega)
    | skip
  · refine Leaf.mk (readO_vw.trans (congrArg some (?_ : _ = (xs.take i ++ (vs ++ xs.drop i)).map some)))
    obtain rfl : vs = [] := List.eq_nil_of_length_eq_zero (by omega)
    change ((xs.map some ++ List.replicate k none).take _) = _
    rw [raw_take (by omega)]
    simp
  · refine Leaf.mk (readO_vw.trans (congrArg some (?_ : _ = (xs.take i ++ (vs ++ xs.drop i)).map some)))
    obtain rfl : i = xs.length := by omega
    change (List.take (α := Option (List UInt8)) _ _) = _
    rw [raw_take (by omega), tk3 (by simp)]
    simp
  · refine Leaf.mk (readO_vw.trans (congrArg some (?_ : _ = (xs.take i ++ (vs ++ xs.drop i)).map some)))
    obtain rfl : i = xs.length := by omega
    change (List.take (α := Option (List UInt8)) _ _) = _
    rw [raw_take (by omega), tk3 (by simp)]
    simp
  · refine Leaf.mk (?_ : (List.take _ (List.drop _ (xs.map some ++ List.replicate k none))).all Option.isSome = true); rw [raw_cut (by omega)]; exact raw_all
  · exact Leaf.mk (readO_vw.trans (congrArg some (ins_new (by omega) (by omega) (by omega))))
  · refine Leaf.mk (?_ : (List.take _ (List.drop _ (xs.map some ++ List.replicate k none))).all Option.isSome = true); rw [raw_cut (by omega)]; exact raw_all
  · exact Leaf.mk (readO_vw.trans (congrArg some (ins_in (by omega) (by omega))))
def sInsertI : OSpec := ⟨3, (.int .i64), [.d (.int .i64), .o 3 (.int .i64)], fun xs y => 0 ≤ y.1 ∧ y.1 ≤ (xs.length : Int) ∧ xs.length + List.length y.2.1 ≤ 1000000, fun xs y => xs.take y.1.toNat ++ (y.2.1 ++ xs.drop y.1.toNat)⟩
theorem fInsertI : FnOk Try.prog 43 := ⟨_, Try.func43, by decide, rfl⟩
theorem pInsertI : SpecOk Try.prog 43 sInsertI.spec := by
  refine oOk (T := tab) (S := (spOf [(67, xOverlaps)])) (keep := k43) (by kernel_rfl) tabOk (spCons (.inr pOverlapsI) spNil) (by kernel_rfl) Try.func43 (by kernel_rfl) (by decide) (by decide) fun xs ys k hg hgt hmax hp => ?_
  obtain ⟨i, vs, ⟨⟩⟩ := ys
  change List Int at xs
  change List Int at vs
  change Int at i
  change 0 ≤ i ∧ i ≤ (xs.length : Int) ∧ xs.length + vs.length ≤ 1000000 at hp
  clear hg hgt
  obtain ⟨i, rfl⟩ := Int.eq_ofNat_of_zero_le hp.1
  show vfun tab _ k43 Try.f43 [.vw 0 (.int .i64) 0 xs.length true, .i .i64 i, .own 1] [(0, .raw 3 (.int .i64) (xs.map some ++ List.replicate k (none : Option (Ty.den (.int .i64))))), (1, .arr 3 (.int .i64) vs)] _
  refine Ev.out ?_
  repeat' (first | ((with_reducible refine Ev.mk ?_); conv => whnf) | (with_reducible refine And.intro ?_ ?_) | (intro h))
  all_goals (try simp only [decide_eq_true_eq, decide_eq_false_iff_not, beq_iff_eq, bne_iff_ne, beq_eq_false_iff_ne, bne_eq_false_iff_eq, Int.toNat_natCast, ge_iff_le, gt_iff_lt, Bool.not_eq_true', Bool.not_eq_false', Int.not_lt, Int.not_le, ne_eq] at *)
  all_goals (try dsimp only [Ty.den, Ty.dflt, (.int .i64)] at *)
  all_goals (try simp only [eq4, ne4, eq3, ne3, eq2, ne2, Prod.eta, List.length_cons, List.length_nil, List.length_append, Nat.zero_add] at *)
  all_goals (try simp (disch := omega) only [wrap64] at *)
  all_goals (try simp only [Int.sub_zero, Int.toNat_natCast, Int.toNat_sub, Int.toNat_zero, Nat.zero_add, toNat_add', toNat_addsub, toNat_subadd, List.length_map, List.length_append, List.length_replicate, List.length_take, List.length_drop] at *)
  all_goals first | omega | skip
  all_goals try first | exact leafDraw (by kernel_rfl) | exact Leaf.mk trivial | (refine Leaf.mk ?_; omega) | (refine Leaf.mk ?_; unfold maxLen; omega)
  all_goals first
    | (refine Leaf.mk ?_; unfold maxLen at *; omega)
    | skip
  · refine Leaf.mk (readO_vw.trans (congrArg some (?_ : _ = (xs.take i ++ (vs ++ xs.drop i)).map some)))
    obtain rfl : vs = [] := List.eq_nil_of_length_eq_zero (by omega)
    change ((xs.map some ++ List.replicate k none).take _) = _
    rw [raw_take (by omega)]
    simp
  · refine Leaf.mk (readO_vw.trans (congrArg some (?_ : _ = (xs.take i ++ (vs ++ xs.drop i)).map some)))
    obtain rfl : i = xs.length := by omega
    change (List.take (α := Option Int) _ _) = _
    rw [raw_take (by omega), tk3 (by simp)]
    simp
  · refine Leaf.mk (readO_vw.trans (congrArg some (?_ : _ = (xs.take i ++ (vs ++ xs.drop i)).map some)))
    obtain rfl : i = xs.length := by omega
    change (List.take (α := Option Int) _ _) = _
    rw [raw_take (by omega), tk3 (by simp)]
    simp
  · refine Leaf.mk (?_ : (List.take _ (List.drop _ (xs.map some ++ List.replicate k none))).all Option.isSome = true); rw [raw_cut (by omega)]; exact raw_all
  · exact Leaf.mk (readO_vw.trans (congrArg some (ins_new (by omega) (by omega) (by omega))))
  · refine Leaf.mk (?_ : (List.take _ (List.drop _ (xs.map some ++ List.replicate k none))).all Option.isSome = true); rw [raw_cut (by omega)]; exact raw_all
  · exact Leaf.mk (readO_vw.trans (congrArg some (ins_in (by omega) (by omega))))
def sInsertB : OSpec := ⟨32, (.slice MsgT), [.d (.int .i64), .o 32 (.slice MsgT)], fun xs y => 0 ≤ y.1 ∧ y.1 ≤ (xs.length : Int) ∧ xs.length + List.length y.2.1 ≤ 1000000, fun xs y => xs.take y.1.toNat ++ (y.2.1 ++ xs.drop y.1.toNat)⟩
theorem fInsertB : FnOk Try.prog 44 := ⟨_, Try.func44, by decide, rfl⟩
theorem pInsertB : SpecOk Try.prog 44 sInsertB.spec := by
  refine oOk (T := tab) (S := (spOf [(69, xOverlaps)])) (keep := k44) (by kernel_rfl) tabOk (spCons (.inr pOverlapsB) spNil) (by kernel_rfl) Try.func44 (by kernel_rfl) (by decide) (by decide) fun xs ys k hg hgt hmax hp => ?_
  obtain ⟨i, vs, ⟨⟩⟩ := ys
  change List (List Msg) at xs
  change List (List Msg) at vs
  change Int at i
  change 0 ≤ i ∧ i ≤ (xs.length : Int) ∧ xs.length + vs.length ≤ 1000000 at hp
  clear hg hgt
  obtain ⟨i, rfl⟩ := Int.eq_ofNat_of_zero_le hp.1
  show vfun tab _ k44 Try.f44 [.vw 0 (.slice MsgT) 0 xs.length true, .i .i64 i, .own 1] [(0, .raw 32 (.slice MsgT) (xs.map some ++ List.replicate k (none : Option (Ty.den (.slice MsgT))))), (1, .arr 32 (.slice MsgT) vs)] _
  refine Ev.out ?_
  repeat' (first | ((with_reducible refine Ev.mk ?_); conv => whnf) | (with_reducible refine And.intro ?_ ?_) | (intro h))
  all_goals (try simp only [decide_eq_true_eq, decide_eq_false_iff_not, beq_iff_eq, bne_iff_ne, beq_eq_false_iff_ne, bne_eq_false_iff_eq, Int.toNat_natCast, ge_iff_le, gt_iff_lt, Bool.not_eq_true', Bool.not_eq_false', Int.not_lt, Int.not_le, ne_eq] at *)
  all_goals (try dsimp only [Ty.den, Ty.dflt, (.slice MsgT)] at *)
  all_goals (try simp only [eq4, ne4, eq3, ne3, eq2, ne2, Prod.eta, List.length_cons, List.length_nil, List.length_append, Nat.zero_add] at *)
  all_goals (try simp (disch := omega) only [wrap64] at *)
  all_goals (try simp only [Int.sub_zero, Int.toNat_natCast, Int.toNat_sub, Int.toNat_zero, Nat.zero_add, toNat_add', toNat_addsub, toNat_subadd, List.length_map, List.length_append, List.length_replicate, List.length_take, List.length_drop] at *)
  all_goals first | omega | skip
  all_goals try first | exact leafDraw (by kernel_rfl) | exact Leaf.mk trivial | (refine Leaf.mk ?_; omega) | (refine Leaf.mk ?_; unfold maxLen; omega)
  all_goals first
    | (refine Leaf.mk ?_; unfold maxLen at *; omega)
    | skip
  · refine Leaf.mk (readO_vw.trans (congrArg some (?_ : _ = (xs.take i ++ (vs ++ xs.drop i)).map some)))
    obtain rfl : vs = [] := List.eq_nil_of_length_eq_zero (by omega)
    change ((xs.map some ++ List.replicate k none).take _) = _
    rw [raw_take (by omega)]
    simp
  · refine Leaf.mk (readO_vw.trans (congrArg some (?_ : _ = (xs.take i ++ (vs ++ xs.drop i)).map some)))
    obtain rfl : i = xs.length := by omega
    change (List.take (α := Option (List Msg)) _ _) = _
    rw [raw_take (by omega), tk3 (by simp)]
    simp
  · refine Leaf.mk (readO_vw.trans (congrArg some (?_ : _ = (xs.take i ++ (vs ++ xs.drop i)).map some)))
    obtain rfl : i = xs.length := by omega
    change (List.take (α := Option (List Msg)) _ _) = _
    rw [raw_take (by omega), tk3 (by simp)]
    simp
  · refine Leaf.mk (?_ : (List.take _ (List.drop _ (xs.map some ++ List.replicate k none))).all Option.isSome = true); rw [raw_cut (by omega)]; exact raw_all
  · exact Leaf.mk (readO_vw.trans (congrArg some (ins_new (by omega) (by omega) (by omega))))
  · refine Leaf.mk (?_ : (List.take _ (List.drop _ (xs.map some ++ List.replicate k none))).all Option.isSome = true); rw [raw_cut (by omega)]; exact raw_all
  · exact Leaf.mk (readO_vw.trans (congrArg some (ins_in (by omega) (by omega))))
def sIGrow : PSpec := ⟨[.d InT, .d (.int .i64), .d (.int .i64), .d .str], [⟨true, [.d InT]⟩], fun x => IPre x.1, fun x => ((growI x.1 x.2.1 x.2.2.1 x.2.2.2.1, ()), ())⟩
theorem fIGrow : FnOk Try.prog 18 := ⟨_, Try.func18, by decide, rfl⟩
theorem pIGrow : PSound Try.prog 18 sIGrow := by
  refine psound (T := tab) (S := (spOf [(30, sIOwn.spec (lsOf [])), (31, sHas.spec (lsOf [])), (42, sInsertS.spec), (43, sInsertI.spec), (44, sInsertB.spec)])) (keep := k18) (by kernel_rfl) tabOk (spCons (pOk pIOwn fIOwn (by decide) lsNil) (spCons (pOk pHas fHas (by decide) lsNil) (spCons (.inl ⟨pInsertS, fInsertS⟩) (spCons (.inl ⟨pInsertI, fInsertI⟩) (spCons (.inl ⟨pInsertB, fInsertB⟩) spNil))))) (by kernel_rfl) Try.func18 (by kernel_rfl) (by decide) fun xs hg hp => ?_
  obtain ⟨n, i, right, sep, ⟨⟩⟩ := xs
  obtain ⟨ps, ks, bs⟩ := n
  clear hg
  change List (List UInt8) at ps
  change List Int at ks
  change List (List Msg) at bs
  change Int at i right
  change List UInt8 at sep
  change IPre (ps, ks, bs) at hp
  have hpp := hp.p
  have hpk := hp.k
  have hpb := hp.b
  dsimp only at hpp hpk hpb
  show vfun tab _ k18 Try.f18 [.agg [.sl .str ps, .sl (.int .i64) ks, .sl (.slice MsgT) bs], .i .i64 i, .i .i64 right, .s sep] [] _
  refine Ev.out ?_
  repeat' (first | ((with_reducible refine Ev.mk ?_); conv => whnf) | (with_reducible refine And.intro ?_ ?_) | (intro h))
  all_goals (try simp only [decide_eq_true_eq, decide_eq_false_iff_not, beq_iff_eq, bne_iff_ne, beq_eq_false_iff_ne, bne_eq_false_iff_eq, Int.toNat_natCast, ge_iff_le, gt_iff_lt, Bool.not_eq_true', Bool.not_eq_false', Int.not_lt, Int.not_le, ne_eq] at *)
  all_goals (try dsimp only [Ty.den, Ty.dflt, InT, sIOwn, sHas] at *)
  all_goals (try simp only [eq4, ne4, eq3, ne3, eq2, ne2, Prod.eta, List.length_cons, List.length_nil, List.length_append, Nat.zero_add] at *)
  all_goals (try simp (disch := omega) only [wrap64] at *)
  all_goals try first | exact leafDraw (by kernel_rfl) | exact Leaf.mk trivial | (refine Leaf.mk ?_; omega) | (refine Leaf.mk ?_; unfold maxLen; omega)
  · refine Leaf.mk (retIn (u := (ps, ks, bs)) (v := growI (ps, ks, bs) i right sep) ?_)
    rw [growI, if_neg (not_of_false (show hasI (ps, ks, bs) i = false by assumption))]
  all_goals
    obtain ⟨hw, hi0, hi1⟩ := hasI_iff.1 (show hasI (ps, ks, bs) i = true from ‹_›)
    obtain ⟨w1, w2⟩ := wholeI_iff.1 hw
    dsimp only at hi1 w1 w2
    have ew : IntKind.i64.wrap (i + 1) = i + 1 := wrap64 (by omega)
  · exact Leaf.mk (show 0 ≤ i ∧ i ≤ (ps.length : Int) ∧ ps.length + 1 ≤ 1000000 by omega)
  · rw [ew]; exact Leaf.mk (show 0 ≤ i + 1 ∧ i + 1 ≤ (ks.length : Int) ∧ ks.length + 1 ≤ 1000000 by omega)
  · rw [ew]; exact Leaf.mk (show 0 ≤ i + 1 ∧ i + 1 ≤ (bs.length : Int) ∧ bs.length + 1 ≤ 1000000 by omega)
  · rw [ew]
    refine Leaf.mk (retIn (u := (insK i.toNat sep ps, insK (i + 1).toNat right ks, insK (i + 1).toNat [] bs)) (v := growI (ps, ks, bs) i right sep) ?_)
    rw [growI, if_pos (show hasI (ps, ks, bs) i = true by assumption), show (i + 1).toNat = i.toNat + 1 by omega]
end Go.Proofs.Ytjifalccioebnaa

set_option linter.unusedVariables false
set_option linter.unusedSimpArgs false
set_option maxRecDepth 8000
set_option maxHeartbeats 4000000
namespace Go.Proofs.Ytjifalccioebnaa
open Go.Eng
def growK {α : Type} (j i k : Nat) (a : α) (l : List α) : List α := if k ≤ i then l.take k else insK j a (l.take k)
theorem growK_zero {α : Type} (j i : Nat) (a : α) (l : List α) : growK j i 0 a l = [] := by
  rw [growK, if_pos (Nat.zero_le _), List.take_zero]
theorem growK_len {α : Type} {j i k : Nat} (a : α) (l : List α) : (growK j i k a l).length ≤ l.length + 1 := by
  rw [growK]
  split
  · rw [List.length_take]; omega
  · rw [insK, List.length_append, List.length_append, List.length_take, List.length_drop]
    simp only [List.length_take, List.length_singleton]
    omega
theorem growK_ne {α : Type} (d : α) {j i k : Nat} (a : α) {l : List α} (hk : k < l.length) (hj : j ≤ i + 1) (h : k ≠ i) : growK j i (k + 1) a l = growK j i k a l ++ [l.getD k d] := by
  by_cases hlt : k < i
  · rw [growK, growK, if_pos (by omega), if_pos (by omega), take_at d hk]
  · rw [growK, growK, if_neg (by omega), if_neg (by omega), insK, insK, take_at d hk, List.take_append_of_le_length (by rw [List.length_take]; omega), List.drop_append_of_le_length (by rw [List.length_take]; omega)]
    simp only [List.append_assoc]
theorem growK_end {α : Type} {j i k : Nat} (a : α) {l : List α} (hk : l.length ≤ k) (h : k ≠ i) : growK j i (k + 1) a l = growK j i k a l := by
  rw [growK, growK, List.take_of_length_le (i := k + 1) (by omega), List.take_of_length_le (i := k) hk]
  by_cases h1 : k ≤ i
  · rw [if_pos h1, if_pos (by omega)]
  · rw [if_neg h1, if_neg (by omega)]
theorem growK_eqK {α : Type} (d : α) {i : Nat} (a : α) {l : List α} (hk : i < l.length) : growK (i + 1) i (i + 1) a l = growK (i + 1) i i a l ++ [l.getD i d] ++ [a] := by
  rw [growK, growK, if_neg (by omega), if_pos (Nat.le_refl _), insK, take_at d hk, List.take_of_length_le (by rw [List.length_append, List.length_take]; simp; omega), List.drop_of_length_le (by rw [List.length_append, List.length_take]; simp; omega)]
  rfl
theorem growK_eqP {α : Type} (d : α) {i : Nat} (a : α) {l : List α} (hk : i < l.length) : growK i i (i + 1) a l = growK i i i a l ++ [a] ++ [l.getD i d] := by
  rw [growK, growK, if_neg (by omega), if_pos (Nat.le_refl _), insK, take_at d hk, List.take_append_of_le_length (by rw [List.length_take]; omega), List.drop_append_of_le_length (by rw [List.length_take]; omega), List.take_take, Nat.min_self, List.drop_of_length_le (by rw [List.length_take]; omega)]
  simp only [List.append_assoc, List.nil_append]
theorem growK_eqE {α : Type} {i : Nat} (a : α) {l : List α} (hk : l.length ≤ i) : growK i i (i + 1) a l = growK i i i a l ++ [a] := by
  rw [growK, growK, if_neg (by omega), if_pos (Nat.le_refl _), insK, List.take_of_length_le (i := i + 1) (by omega), List.take_of_length_le (i := i) hk, List.drop_of_length_le hk]
  rfl
theorem growK_all {α : Type} {j i k : Nat} (a : α) {l : List α} (hk : l.length ≤ k) (h : i < k) : growK j i k a l = insK j a l := by
  rw [growK, if_neg (by omega), List.take_of_length_le hk]
def sGrowR : PSpec := sIGrow
theorem fGrowR : FnOk Try.prog 19 := ⟨_, Try.func19, by decide, rfl⟩
theorem pGrowR : PSound Try.prog 19 sGrowR := by
  refine psound (T := tab) (S := (spOf [(32, sCopied.spec (lsOf [])), (33, sHasR.spec (lsOf []))])) (keep := k19) (by kernel_rfl) tabOk (spCons (pOk pCopied fCopied (by decide) lsNil) (spCons (pOk pHasR fHasR (by decide) lsNil) spNil)) (by kernel_rfl) Try.func19 (by kernel_rfl) (by decide) fun xs hg hp => ?_
  obtain ⟨n, i, right, sep, ⟨⟩⟩ := xs
  obtain ⟨ps, ks, bs⟩ := n
  clear hg
  change List (List UInt8) at ps
  change List Int at ks
  change List (List Msg) at bs
  change Int at i right
  change List UInt8 at sep
  change IPre (ps, ks, bs) at hp
  have hpp := hp.p
  have hpk := hp.k
  have hpb := hp.b
  have hbl := fun i => hp.bl i
  dsimp only at hpp hpk hpb hbl
  show vfun tab _ k19 Try.f19 [.agg [.sl .str ps, .sl (.int .i64) ks, .sl (.slice MsgT) bs], .i .i64 i, .i .i64 right, .s sep] [] _
  refine Ev.out ?_
  repeat' (first | ((with_reducible refine Ev.mk ?_); conv => whnf) | (with_reducible refine And.intro ?_ ?_) | (intro h))
  all_goals (try simp only [decide_eq_true_eq, decide_eq_false_iff_not, beq_iff_eq, bne_iff_ne, beq_eq_false_iff_ne, bne_eq_false_iff_eq, Int.toNat_natCast, ge_iff_le, gt_iff_lt, Bool.not_eq_true', Bool.not_eq_false', Int.not_lt, Int.not_le, ne_eq] at *)
  all_goals (try dsimp only [Ty.den, Ty.dflt, InT, sCopied, sHasR, sHas] at *)
  all_goals (try simp only [eq4, ne4, eq3, ne3, eq2, ne2, Prod.eta, List.length_cons, List.length_nil, List.length_append, Nat.zero_add] at *)
  all_goals (try simp (disch := omega) only [wrap64] at *)
  all_goals try first | exact leafDraw (by kernel_rfl) | exact Leaf.mk trivial | (refine Leaf.mk ?_; omega) | (refine Leaf.mk ?_; unfold maxLen; omega)
  · refine Leaf.mk (retIn (u := (ps, ks, bs)) (v := growI (ps, ks, bs) i right sep) ?_)
    rw [growI, if_neg (not_of_false (show hasI (ps, ks, bs) i = false by assumption))]
  obtain ⟨hw, hi0, hi1⟩ := hasI_iff.1 (show hasI (ps, ks, bs) i = true from ‹_›)
  obtain ⟨w1, w2⟩ := wholeI_iff.1 hw
  dsimp only at hi1 w1 w2
  obtain ⟨q, rfl⟩ := Int.eq_ofNat_of_zero_le hi0
  refine LoopVC.weak [(.cell 2 0, .nil 9 .str), (.cell 2 1, .nil 3 (.int .i64)), (.cell 2 2, .nil 32 (.slice MsgT))] (fun k : Nat => [(10, .i .i64 k)]) (fun k => [(3, .arr 9 .str (growK q q k sep ps)), (4, .arr 3 (.int .i64) (growK (q + 1) q k right ks)), (5, .arr 32 (.slice MsgT) (growK (q + 1) q k [] bs))]) (fun k => k ≤ ks.length) (fun k => ks.length - k) 0 (Ev.mk ?_)
  (conv => whnf)
  refine ⟨Leaf.mk ?_, Leaf.mk ?_, ?_⟩
  · rw [growK_zero, growK_zero, growK_zero]; rfl
  · omega
  intro k hk
  have hl1 := growK_len (j := q) (i := q) (k := k) sep ps
  have hl2 := growK_len (j := q + 1) (i := q) (k := k) right ks
  have hl3 := growK_len (j := q + 1) (i := q) (k := k) [] bs
  repeat' (first | ((with_reducible refine Ev.mk ?_); conv => whnf) | (with_reducible refine And.intro ?_ ?_) | (intro h))
  all_goals (try simp only [decide_eq_true_eq, decide_eq_false_iff_not, beq_iff_eq, bne_iff_ne, beq_eq_false_iff_ne, bne_eq_false_iff_eq, Int.toNat_natCast, ge_iff_le, gt_iff_lt, Bool.not_eq_true', Bool.not_eq_false', Int.not_lt, Int.not_le, ne_eq] at *)
  all_goals (try dsimp only [Ty.den, Ty.dflt, InT] at *)
  all_goals (try simp only [eq4, ne4, eq3, ne3, eq2, ne2, Prod.eta, List.length_cons, List.length_nil, List.length_append, Nat.zero_add] at *)
  all_goals (try simp (disch := omega) only [wrap64] at *)
  all_goals try first | exact leafDraw (by kernel_rfl) | exact Leaf.mk trivial | (refine Leaf.mk ?_; omega) | (refine Leaf.mk ?_; unfold maxLen; omega)
  all_goals first
    | (refine Leaf.mk ?_; have := hbl k; omega)
    | (refine Leaf.mk ?_; have := hbl k; unfold maxLen; omega)
    | (refine Leaf.mk ?_; omega)
    | (refine Leaf.mk ?_; unfold maxLen; omega)
    | skip
  all_goals first
    | (have hkq : k = q := by omega
       subst hkq
       refine Leaf.mk (Exists.intro (k + 1) ⟨?_, by omega, by omega⟩)
       rw [growK_eqP [] sep (by omega), growK_eqK 0 right (by omega), growK_eqK [] [] (by omega)]
       rfl)
    | (have hkq : k = q := by omega
       subst hkq
       refine Leaf.mk (Exists.intro (k + 1) ⟨?_, by omega, by omega⟩)
       rw [growK_eqE sep (by omega), growK_eqK 0 right (by omega), growK_eqK [] [] (by omega)]
       rfl)
    | (have hkq : k ≠ q := by omega
       refine Leaf.mk (Exists.intro (k + 1) ⟨?_, by omega, by omega⟩)
       rw [growK_ne [] sep (by omega) (by omega) hkq, growK_ne 0 right (by omega) (by omega) hkq, growK_ne [] [] (by omega) (by omega) hkq]
       rfl)
    | (have hkq : k ≠ q := by omega
       refine Leaf.mk (Exists.intro (k + 1) ⟨?_, by omega, by omega⟩)
       rw [growK_end sep (by omega) hkq, growK_ne 0 right (by omega) (by omega) hkq, growK_ne [] [] (by omega) (by omega) hkq]
       rfl)
    | skip
  all_goals
    obtain rfl : k = ks.length := by omega
    refine Leaf.mk (retIn (u := (growK q q ks.length sep ps, growK (q + 1) q ks.length right ks, growK (q + 1) q ks.length [] bs)) (v := growI (ps, ks, bs) q right sep) ?_)
    rw [growI, if_pos (show hasI (ps, ks, bs) q = true by assumption), growK_all _ (by omega) (by omega), growK_all _ (by omega) (by omega), growK_all _ (by omega) (by omega), Int.toNat_natCast]
end Go.Proofs.Ytjifalccioebnaa

set_option linter.unusedVariables false
set_option linter.unusedSimpArgs false
set_option maxRecDepth 8000
set_option maxHeartbeats 4000000
namespace Go.Proofs.Ytjifalccioebnaa
open Go.Eng
theorem fOwnX : FnOk Try.prog 30 := ⟨_, Try.func30, by decide, rfl⟩
noncomputable def iOwnX : Eng.Spec := inl (exT tab) (spOf []) k30 Try.f30
theorem pOwnX : SpecOk Try.prog 30 iOwnX := inl_ok (exT_ok tabOk) spNil (by kernel_rfl) Try.func30 (by kernel_rfl)
def snds (l : List (Bool × List Msg)) : List (List Msg) := l.map fun r => r.2
theorem snds_true : ∀ (bs : List (List Msg)), snds (bs.map fun b => ((true, b) : Bool × List Msg)) = bs
  | [] => rfl
  | b :: bs => by rw [List.map_cons]; exact congrArg (b :: ·) (snds_true bs)
def sIAdd : PSpec := ⟨[.d InT, .d MsgT], [⟨true, [.d InT]⟩], fun x => IPre x.1, fun x => ((addI x.1 x.2.1, ()), ())⟩
theorem fIAdd : FnOk Try.prog 14 := ⟨_, Try.func14, by decide, rfl⟩
theorem pIAdd : PSound Try.prog 14 sIAdd := by
  refine psound (T := (exT tab)) (S := (spOf [(30, iOwnX), (34, sWhole.spec (lsOf [])), (37, sMCheck.spec (lsOf [])), (28, sRoute.spec (lsOf [])), (38, sWide.spec (lsOf []))])) (keep := k14) (by kernel_rfl) (exT_ok tabOk) (spCons (.inl ⟨pOwnX, fOwnX⟩) (spCons (pOk pWhole fWhole (by decide) lsNil) (spCons (pOk pMCheck fMCheck (by decide) lsNil) (spCons (pOk pRoute fRoute (by decide) lsNil) (spCons (pOk pWide fWide (by decide) lsNil) spNil))))) (by kernel_rfl) Try.func14 (by kernel_rfl) (by decide) fun xs hg hp => ?_
  obtain ⟨⟨ps, ks, bs⟩, ⟨kind, key, txn, ts, gone, val⟩, ⟨⟩⟩ := xs
  clear hg
  change List (List UInt8) at ps
  change List Int at ks
  change List (List Msg) at bs
  change Int at kind txn ts
  change List UInt8 at key val
  change Bool at gone
  change IPre (ps, ks, bs) at hp
  have hpp := hp.p
  have hpk := hp.k
  have hpb := hp.b
  have hbl := fun i => hp.bl i
  dsimp only at hpp hpk hpb hbl
  show vfun (exT tab) _ k14 Try.f14 [.agg [.sl .str ps, .sl (.int .i64) ks, .sl (.slice MsgT) bs], .agg [.i .u8 kind, .s key, .i .i64 txn, .i .i64 ts, .b gone, .s val]] [] _
  refine Ev.out ?_
  repeat' (first | ((with_reducible refine Ev.mk ?_); conv => whnf) | (with_reducible refine And.intro ?_ ?_) | (intro h))
  all_goals (try simp only [decide_eq_true_eq, decide_eq_false_iff_not, beq_iff_eq, bne_iff_ne, beq_eq_false_iff_ne, bne_eq_false_iff_eq, Int.toNat_natCast, ge_iff_le, gt_iff_lt, Bool.not_eq_true', Bool.not_eq_false', Int.not_lt, Int.not_le, ne_eq] at *)
  all_goals (try dsimp only [Ty.den, Ty.dflt, InT, sWhole, sMCheck, sRoute, sWide] at *)
  all_goals (try simp only [eq4, ne4, eq3, ne3, eq2, ne2, Prod.eta, List.length_cons, List.length_nil, List.length_append, Nat.zero_add] at *)
  all_goals (try simp (disch := omega) only [wrap64] at *)
  all_goals try first | exact leafDraw (by kernel_rfl) | exact Leaf.mk trivial | (refine Leaf.mk ?_; omega) | (refine Leaf.mk ?_; unfold maxLen; omega)
  rw [cp_all, cp_all]
  refine LoopVC.weak [(.cell 12 2, .nilx 32 MsgT)] (fun i : Nat => [(29, .i .i64 i)]) (fun i => [(15, .arx 32 MsgT ((bs.take i).map fun b => (true, b)))]) (fun i => i ≤ bs.length) (fun i => bs.length - i) 0 (Ev.mk ?_)
  (conv => whnf)
  refine ⟨Leaf.mk ?_, Leaf.mk ?_, ?_⟩
  · rfl
  · omega
  intro i hi
  repeat' (first | ((with_reducible refine Ev.mk ?_); conv => whnf) | (with_reducible refine And.intro ?_ ?_) | (intro h))
  all_goals (try simp only [decide_eq_true_eq, decide_eq_false_iff_not, beq_iff_eq, bne_iff_ne, beq_eq_false_iff_ne, bne_eq_false_iff_eq, Int.toNat_natCast, ge_iff_le, gt_iff_lt, Bool.not_eq_true', Bool.not_eq_false', Int.not_lt, Int.not_le, ne_eq] at *)
  all_goals (try dsimp only [Ty.den, Ty.dflt, InT, sWhole, sMCheck, sRoute, sWide] at *)
  all_goals (try simp only [eq4, ne4, eq3, ne3, eq2, ne2, Prod.eta, List.length_cons, List.length_nil, List.length_append, Nat.zero_add] at *)
  all_goals (try simp (disch := omega) only [wrap64] at *)
  all_goals try first | exact leafDraw (by kernel_rfl) | exact Leaf.mk trivial | (refine Leaf.mk ?_; omega) | (refine Leaf.mk ?_; unfold maxLen; omega)
  all_goals have htl : ((bs.take i).map fun b => (true, b)).length = i := by rw [List.length_map, List.length_take]; omega
  all_goals first
    | (refine Leaf.mk ?_; have := hbl i; omega)
    | (refine Leaf.mk ?_; omega)
    | (refine Leaf.mk ?_; unfold maxLen; omega)
    | (refine Leaf.mk ?_; rw [List.length_map, List.length_take]; omega)
    | (refine Leaf.mk ?_; rw [List.length_map, List.length_take]; unfold maxLen; omega)
    | (refine Leaf.mk (Exists.intro (i + 1) ⟨?_, by omega, by omega⟩)
       rw [cp_all, take_at [] (show i < bs.length by omega), List.map_append]; rfl)
    | skip
  all_goals
    obtain rfl : i = bs.length := by omega
    rw [List.take_length] at *
  · refine Leaf.mk (retIn (u := (ps, ks, snds (bs.map fun b => ((true, b) : Bool × List Msg)))) (v := addI (ps, ks, bs) (kind, key, txn, ts, gone, val)) ?_)
    rw [addI, if_neg (fun hc => by have h1 := hc.1; rw [show wholeI (ps, ks, bs) = false by assumption] at h1; cases h1)]
    rw [snds_true]
  · refine Leaf.mk (retIn (u := (ps, ks, snds (bs.map fun b => ((true, b) : Bool × List Msg)))) (v := addI (ps, ks, bs) (kind, key, txn, ts, gone, val)) ?_)
    rw [addI, if_neg (fun hc => by have h1 := hc.2; contradiction)]
    rw [snds_true]
  have hadd : addI (ps, ks, bs) (kind, key, txn, ts, gone, val) = (ps, ks, addB (aimI (ps, ks, bs) (kind, key, txn, ts, gone, val)) (kind, key, txn, ts, gone, val) bs) := by rw [addI, if_pos ⟨by assumption, by assumption⟩]
  have haim : ∀ j, aimI (ps, ks, bs) (kind, key, txn, ts, gone, val) j = (wide (kind, key, txn, ts, gone, val) || decide (j = routeI ps key)) := fun _ => rfl
  generalize aimI (ps, ks, bs) (kind, key, txn, ts, gone, val) = p at hadd haim
  rw [List.length_map]
  refine LoopVC.on (fun j : Nat => [(26, .i .i64 j)]) (fun j => [(5, .arx 32 MsgT (rowsX p (kind, key, txn, ts, gone, val) bs j))]) (fun j => j ≤ bs.length) (fun j => bs.length - j) 0 (by rw [rowsX_zero]; rfl) (by omega) ?_
  intro j hj
  have hlen := rowsX_len (p := p) (m := ((kind, key, txn, ts, gone, val) : Msg)) (bs := bs) (i := j)
  repeat' (first | ((with_reducible refine Ev.mk ?_); conv => whnf) | (with_reducible refine And.intro ?_ ?_) | (intro h))
  all_goals (try simp only [decide_eq_true_eq, decide_eq_false_iff_not, beq_iff_eq, bne_iff_ne, beq_eq_false_iff_ne, bne_eq_false_iff_eq, Int.toNat_natCast, ge_iff_le, gt_iff_lt, Bool.not_eq_true', Bool.not_eq_false', Int.not_lt, Int.not_le, ne_eq] at *)
  all_goals (try dsimp only [Ty.den, Ty.dflt, InT, sWhole, sMCheck, sRoute, sWide] at *)
  all_goals (try simp only [eq4, ne4, eq3, ne3, eq2, ne2, Prod.eta, List.length_cons, List.length_nil, List.length_append, Nat.zero_add] at *)
  all_goals (try simp (disch := omega) only [wrap64] at *)
  all_goals try first | exact leafDraw (by kernel_rfl) | exact Leaf.mk trivial | (refine Leaf.mk ?_; omega) | (refine Leaf.mk ?_; unfold maxLen; omega)
  all_goals try
    have hgd : (rowsX p ((kind, key, txn, ts, gone, val) : Msg) bs j).getD j (false, []) = (true, bs.getD j []) := by rw [List.getD_eq_getElem?_getD, rowsX_get (by omega)]; rfl
    have hbj := hbl j
    erw [hgd]
  all_goals first
    | exact Leaf.mk rfl
    | (refine Leaf.mk ?_; dsimp only; omega)
    | (refine Leaf.mk ?_; dsimp only; unfold maxLen; omega)
    | (refine Leaf.mk (Exists.intro (j + 1) ⟨?_, by omega, by omega⟩)
       have hpj : p j = true := by
         rw [haim, Bool.or_eq_true]
         first | exact .inl (by assumption) | exact .inr (decide_eq_true (by omega))
       rw [← rowsX_set hpj]; rfl)
    | (refine Leaf.mk (Exists.intro (j + 1) ⟨?_, by omega, by omega⟩)
       have hpj : p j = false := by
         rw [haim, Bool.or_eq_false_iff]
         exact ⟨by assumption, decide_eq_false (by omega)⟩
       rw [rowsX_no hpj]; rfl)
    | skip
  obtain rfl : j = bs.length := by omega
  refine Leaf.mk (retIn (u := (ps, ks, snds (rowsX p ((kind, key, txn, ts, gone, val) : Msg) bs bs.length))) (v := addI (ps, ks, bs) (kind, key, txn, ts, gone, val)) ?_)
  rw [hadd, snds, rowsX_end]
end Go.Proofs.Ytjifalccioebnaa
