import Derived.Test.YtkmfjlfejdoehaaGreatQ9
import Derived.Test.YtkmfjlfejdoehaaGreatTab
import Derived.Test.YtkmfjlfejdoehaaGreatEng6
import Derived.RangeFuncBox
import Derived.RangeFuncLeaves
import Derived.Shelf.Abstract
import Derived.WalkKit
import Derived.OwnWalkIn
import Derived.TacticsInMore
import Derived.LoopNIn
import Derived.LoopIn
/- Texts, one behind the other. -/
set_option linter.unusedVariables false
set_option linter.unusedSimpArgs false
set_option maxRecDepth 8000
set_option maxHeartbeats 4000000
namespace Go.Proofs.YtkmfjlfejdoehaaGreat
open Go.Eng
def sCloneM : PSpec := ⟨[.d (.slice MsgT)], [⟨false, [.o 34 MsgT]⟩], fun x => x.1.length ≤ 1000000, fun x => ((x.1, ()), ())⟩
theorem fCloneM : FnOk Tryz.prog 106 := ⟨_, Tryz.func106, by decide, rfl⟩
theorem pCloneM : PSound Tryz.prog 106 sCloneM := by
  refine psound (T := tab) (S := (spOf [])) (keep := k106) (by kernel_rfl) tabOk spNil (by kernel_rfl) Tryz.func106 (by kernel_rfl) (by decide) fun xs hg hp => ?_
  obtain ⟨xs, ⟨⟩⟩ := xs
  obtain ⟨⟨hl, -⟩, -⟩ := hg
  change List Msg at xs
  clear hl
  change xs.length ≤ 1000000 at hp
  show vfun tab _ k106 Tryz.f106 [.sl MsgT xs] [] _
  refine Ev.out ?_
  repeat' (first | ((with_reducible refine Ev.mk ?_); conv => whnf) | (with_reducible refine And.intro ?_ ?_) | (intro h))
  all_goals (try simp only [decide_eq_true_eq, decide_eq_false_iff_not, beq_iff_eq, bne_iff_ne, beq_eq_false_iff_ne, bne_eq_false_iff_eq, Int.toNat_natCast, ge_iff_le, gt_iff_lt, Bool.not_eq_true', Bool.not_eq_false', Int.not_lt, Int.not_le, ne_eq] at *)
  all_goals (try dsimp only [Ty.den, Ty.dflt, MsgT] at *)
  all_goals (try simp only [eq4, ne4, eq3, ne3, eq2, ne2, Prod.eta, List.length_cons, List.length_nil, List.length_append, Nat.zero_add] at *)
  all_goals (try simp (disch := omega) only [wrap64] at *)
  all_goals try first | exact leafDraw (by kernel_rfl) | exact Leaf.mk trivial | (refine Leaf.mk ?_; omega) | (refine Leaf.mk ?_; unfold maxLen; omega)
  all_goals first
    | (refine Leaf.mk (ret1 (show ([] : List Msg) = xs from ?_)); exact (List.eq_nil_of_length_eq_zero (by omega)).symm)
    | exact Leaf.mk (ret1 rfl)
    | skip
theorem fClip1 : FnOk Tryz.prog 107 := ⟨_, Tryz.func107, by decide, rfl⟩
noncomputable def iClip1 : Eng.Spec := inl tab (spOf [(108, sWide.spec (lsOf [])), (109, sWithinF.spec (lsOf []))]) k107 Tryz.f107
theorem pClip1 : SpecOk Tryz.prog 107 iClip1 := inl_ok tabOk (spCons (pOk pWide fWide (by decide) lsNil) (spCons (pOk pWithinF fWithinF (by decide) lsNil) spNil)) (by kernel_rfl) Tryz.func107 (by kernel_rfl)
theorem fIndexFuncMi : FnOk Tryz.prog 170 := ⟨_, Tryz.func170, by decide, rfl⟩
noncomputable def iIndexFuncMi : Eng.Spec := inl tab (spOf [(107, iClip1)]) k170 Tryz.f170
theorem pIndexFuncMi : SpecOk Tryz.prog 170 iIndexFuncMi := inl_ok tabOk (spCons (.inl ⟨pClip1, fClip1⟩) spNil) (by kernel_rfl) Tryz.func170 (by kernel_rfl)
theorem fDeleteFuncM : FnOk Tryz.prog 105 := ⟨_, Tryz.func105, by decide, rfl⟩
noncomputable def iDeleteFuncM : Eng.Spec := opn tab (spOf [(107, iClip1), (170, iIndexFuncMi)]) k105 Tryz.f105
theorem pDeleteFuncM : SpecOk Tryz.prog 105 iDeleteFuncM := opn_ok tabOk (spCons (.inl ⟨pClip1, fClip1⟩) (spCons (.inl ⟨pIndexFuncMi, fIndexFuncMi⟩) spNil)) (by kernel_rfl) Tryz.func105 (by kernel_rfl)
def sClip : PSpec := sClipR
theorem fClip : FnOk Tryz.prog 49 := ⟨_, Tryz.func49, by decide, rfl⟩
theorem pClip : PSound Tryz.prog 49 sClip := by
  refine psound (T := tab) (S := (spOf [(106, sCloneM.spec (lsOf [])), (105, iDeleteFuncM)])) (keep := k49) (by kernel_rfl) tabOk (spCons (pOk pCloneM fCloneM (by decide) lsNil) (spCons (.inl ⟨pDeleteFuncM, fDeleteFuncM⟩) spNil)) (by kernel_rfl) Tryz.func49 (by kernel_rfl) (by decide) fun xs hg hp => ?_
  obtain ⟨l, lo, up, ⟨⟩⟩ := xs
  clear hg
  change List Msg at l
  change List UInt8 at lo up
  change l.length ≤ 100000 at hp
  show vfun tab _ k49 Tryz.f49 [.sl MsgT l, .s lo, .s up] [] _
  refine Ev.out ?_
  repeat' (first | ((with_reducible refine Ev.mk ?_); conv => whnf) | (with_reducible refine And.intro ?_ ?_) | (intro h))
  all_goals (try simp only [decide_eq_true_eq, decide_eq_false_iff_not, beq_iff_eq, bne_iff_ne, beq_eq_false_iff_ne, bne_eq_false_iff_eq, Int.toNat_natCast, ge_iff_le, gt_iff_lt, Bool.not_eq_true', Bool.not_eq_false', Int.not_lt, Int.not_le, ne_eq] at *)
  all_goals (try dsimp only [Ty.den, Ty.dflt, MsgT, sCloneM, sClipR] at *)
  all_goals (try simp only [eq4, ne4, eq3, ne3, eq2, ne2, Prod.eta, List.length_cons, List.length_nil, List.length_append, Nat.zero_add] at *)
  all_goals (try simp (disch := omega) only [wrap64] at *)
  all_goals (try simp only [Int.sub_zero, Int.toNat_natCast, Int.toNat_sub, Int.toNat_zero, Nat.zero_add, toNat_add', toNat_addsub, toNat_subadd, List.length_map, List.length_append, List.length_replicate, List.length_take, List.length_drop] at *)
  all_goals try first | exact leafDraw (by kernel_rfl) | exact Leaf.mk trivial | (refine Leaf.mk ?_; omega) | (refine Leaf.mk ?_; unfold maxLen; omega)
  rename_i k
  let p : Msg → Bool := fun m => !clipP lo up m
  have hpf : ∀ m : Msg, clipP lo up m = true → p m = false := fun m h => by show (!clipP lo up m) = false; rw [h]; rfl
  have hpt : ∀ m : Msg, clipP lo up m = false → p m = true := fun m h => by show (!clipP lo up m) = true; rw [h]; rfl
  have ht : l.filter (clipP lo up) = l.filter (fun m => !p m) := by
    refine congrArg (fun f => l.filter f) (funext fun m => ?_)
    show clipP lo up m = !(!clipP lo up m)
    rw [Bool.not_not]
  refine LoopVC.on (fun i : Nat => [(8, .i .i64 i)]) (fun _ => []) (fun i => i ≤ l.length ∧ ∀ j, j < i → p (l.getD j msg0) = false) (fun i => l.length - i) 0 rfl ⟨by omega, fun j hj => by omega⟩ ?_
  intro i ⟨hi, he⟩
  have hget : i < l.length → (l.map some ++ List.replicate k none).getD i none = some ((l.getD i msg0) : Msg) := fun h => raw_getD _ h
  repeat' (first | ((with_reducible refine Ev.mk ?_); conv => whnf) | (with_reducible refine And.intro ?_ ?_) | (intro h))
  all_goals (try simp only [decide_eq_true_eq, decide_eq_false_iff_not, beq_iff_eq, bne_iff_ne, beq_eq_false_iff_ne, bne_eq_false_iff_eq, Int.toNat_natCast, ge_iff_le, gt_iff_lt, Bool.not_eq_true', Bool.not_eq_false', Int.not_lt, Int.not_le, ne_eq] at *)
  all_goals (try dsimp only [Ty.den, Ty.dflt, MsgT, sCloneM, sClipR, sWide, sWithinF] at *)
  all_goals (try simp only [eq4, ne4, eq3, ne3, eq2, ne2, Prod.eta, List.length_cons, List.length_nil, List.length_append, Nat.zero_add] at *)
  all_goals (try simp (disch := omega) only [wrap64] at *)
  all_goals (try simp only [Int.sub_zero, Int.toNat_natCast, Int.toNat_sub, Int.toNat_zero, Nat.zero_add, toNat_add', toNat_addsub, toNat_subadd, List.length_map, List.length_append, List.length_replicate, List.length_take, List.length_drop] at *)
  all_goals try first | exact leafDraw (by kernel_rfl) | exact Leaf.mk trivial | (refine Leaf.mk ?_; omega) | (refine Leaf.mk ?_; unfold maxLen; omega)
  all_goals try rw [hget (by omega)] at *
  all_goals try simp only [Option.getD_some] at *
  · exact Leaf.mk rfl
  · have hpi : p (l.getD i msg0) = true := hpt _ (by simp_all [clipP])
    refine LoopVC.on (fun a : Nat × Nat × List (Option Msg) => [(5, .i .i64 a.1), (6, .i .i64 a.2.1)]) (fun a => [(10, .raw 34 MsgT a.2.2)]) (fun a => DF p l k a.2.2 a.1 a.2.1) (fun a => l.length - a.2.1) (i, i + 1, _) rfl (DF.init msg0 (by omega) he hpi) ?_
    intro ⟨i, j, zs⟩ D
    change DF p l k zs i j at D
    have hget : j < l.length → zs.getD j none = some ((l.getD j msg0) : Msg) := fun h => D.get _ h
    have hlen := D.len
    have hlt := D.lt
    have hle := D.le
    dsimp only
    repeat' (first | ((with_reducible refine Ev.mk ?_); conv => whnf) | (with_reducible refine And.intro ?_ ?_) | (intro h))
    all_goals (try simp only [decide_eq_true_eq, decide_eq_false_iff_not, beq_iff_eq, bne_iff_ne, beq_eq_false_iff_ne, bne_eq_false_iff_eq, Int.toNat_natCast, ge_iff_le, gt_iff_lt, Bool.not_eq_true', Bool.not_eq_false', Int.not_lt, Int.not_le, ne_eq] at *)
    all_goals (try dsimp only [Ty.den, Ty.dflt, MsgT, sCloneM, sClipR, sWide, sWithinF] at *)
    all_goals (try simp only [eq4, ne4, eq3, ne3, eq2, ne2, Prod.eta, List.length_cons, List.length_nil, List.length_append, Nat.zero_add] at *)
    all_goals (try simp (disch := omega) only [wrap64] at *)
    all_goals (try simp only [Int.sub_zero, Int.toNat_natCast, Int.toNat_sub, Int.toNat_zero, Nat.zero_add, toNat_add', toNat_addsub, toNat_subadd, List.length_map, List.length_append, List.length_replicate, List.length_take, List.length_drop] at *)
    all_goals try first | exact leafDraw (by kernel_rfl) | exact Leaf.mk trivial | (refine Leaf.mk ?_; omega) | (refine Leaf.mk ?_; unfold maxLen; omega)
    all_goals try rw [hget (by omega)] at *
    all_goals try simp only [Option.getD_some] at *
    all_goals first
      | exact Leaf.mk rfl
      | (have hpj : p (l.getD j msg0) = false := hpf _ (by simp_all [clipP])
         exact Leaf.mk ⟨(i + 1, j + 1, _), rfl, D.keep msg0 (by omega) hpj, by show _ - (j + 1) < _; omega⟩)
      | (have hpj : p (l.getD j msg0) = true := hpt _ (by simp_all [clipP])
         exact Leaf.mk ⟨(i, j + 1, zs), rfl, D.next msg0 (by omega) hpj, by show _ - (j + 1) < _; omega⟩)
      | (refine Leaf.mk ?_
         rw [List.append_assoc, D.end (by omega)]; exact raw_all)
      | (refine Leaf.mk (ret1 (show List.map (fun r => r.getD msg0) (List.take i (zs.take i ++ List.replicate (l.length - i) (some (msg0 : Msg)) ++ zs.drop (i + (l.length - i)))) = l.filter (clipP lo up) from ?_))
         rw [List.append_assoc, D.end (by omega), map_some_getD, ht])
      | skip
  · have hpi : p (l.getD i msg0) = true := hpt _ (by simp_all [clipP])
    refine LoopVC.on (fun a : Nat × Nat × List (Option Msg) => [(5, .i .i64 a.1), (6, .i .i64 a.2.1)]) (fun a => [(10, .raw 34 MsgT a.2.2)]) (fun a => DF p l k a.2.2 a.1 a.2.1) (fun a => l.length - a.2.1) (i, i + 1, _) rfl (DF.init msg0 (by omega) he hpi) ?_
    intro ⟨i, j, zs⟩ D
    change DF p l k zs i j at D
    have hget : j < l.length → zs.getD j none = some ((l.getD j msg0) : Msg) := fun h => D.get _ h
    have hlen := D.len
    have hlt := D.lt
    have hle := D.le
    dsimp only
    repeat' (first | ((with_reducible refine Ev.mk ?_); conv => whnf) | (with_reducible refine And.intro ?_ ?_) | (intro h))
    all_goals (try simp only [decide_eq_true_eq, decide_eq_false_iff_not, beq_iff_eq, bne_iff_ne, beq_eq_false_iff_ne, bne_eq_false_iff_eq, Int.toNat_natCast, ge_iff_le, gt_iff_lt, Bool.not_eq_true', Bool.not_eq_false', Int.not_lt, Int.not_le, ne_eq] at *)
    all_goals (try dsimp only [Ty.den, Ty.dflt, MsgT, sCloneM, sClipR, sWide, sWithinF] at *)
    all_goals (try simp only [eq4, ne4, eq3, ne3, eq2, ne2, Prod.eta, List.length_cons, List.length_nil, List.length_append, Nat.zero_add] at *)
    all_goals (try simp (disch := omega) only [wrap64] at *)
    all_goals (try simp only [Int.sub_zero, Int.toNat_natCast, Int.toNat_sub, Int.toNat_zero, Nat.zero_add, toNat_add', toNat_addsub, toNat_subadd, List.length_map, List.length_append, List.length_replicate, List.length_take, List.length_drop] at *)
    all_goals try first | exact leafDraw (by kernel_rfl) | exact Leaf.mk trivial | (refine Leaf.mk ?_; omega) | (refine Leaf.mk ?_; unfold maxLen; omega)
    all_goals try rw [hget (by omega)] at *
    all_goals try simp only [Option.getD_some] at *
    all_goals first
      | exact Leaf.mk rfl
      | (have hpj : p (l.getD j msg0) = false := hpf _ (by simp_all [clipP])
         exact Leaf.mk ⟨(i + 1, j + 1, _), rfl, D.keep msg0 (by omega) hpj, by show _ - (j + 1) < _; omega⟩)
      | (have hpj : p (l.getD j msg0) = true := hpt _ (by simp_all [clipP])
         exact Leaf.mk ⟨(i, j + 1, zs), rfl, D.next msg0 (by omega) hpj, by show _ - (j + 1) < _; omega⟩)
      | (refine Leaf.mk ?_
         rw [List.append_assoc, D.end (by omega)]; exact raw_all)
      | (refine Leaf.mk (ret1 (show List.map (fun r => r.getD msg0) (List.take i (zs.take i ++ List.replicate (l.length - i) (some (msg0 : Msg)) ++ zs.drop (i + (l.length - i)))) = l.filter (clipP lo up) from ?_))
         rw [List.append_assoc, D.end (by omega), map_some_getD, ht])
      | skip
  · have hpi : p (l.getD i msg0) = false := hpf _ (by simp_all [clipP])
    refine Leaf.mk ⟨i + 1, rfl, ⟨by omega, fun j hj => ?_⟩, by omega⟩
    by_cases hji : j = i
    · subst hji; exact hpi
    · exact he j (by omega)
  · have hpi : p (l.getD i msg0) = false := hpf _ (by simp_all [clipP])
    refine Leaf.mk ⟨i + 1, rfl, ⟨by omega, fun j hj => ?_⟩, by omega⟩
    by_cases hji : j = i
    · subst hji; exact hpi
    · exact he j (by omega)
  · refine Leaf.mk (?_ : (List.take _ (l.map some ++ List.replicate k none)).all Option.isSome = true); rw [raw_take (Nat.le_refl _)]; exact raw_all
  · refine Leaf.mk (ret1 (show List.map (fun r => r.getD msg0) (List.take l.length (l.map some ++ List.replicate k none)) = l.filter (clipP lo up) from ?_))
    rw [raw_take (Nat.le_refl _), map_some_getD, List.take_length, ht, List.filter_eq_self.2]
    intro e hm
    obtain ⟨j, hj, rfl⟩ := List.mem_iff_getElem.1 hm
    have := he j (by omega)
    rw [List.getD_eq_getElem?_getD, List.getElem?_eq_getElem hj] at this
    simp [show p l[j] = false from this]
  · exact absurd trivial ‹¬ True›
end Go.Proofs.YtkmfjlfejdoehaaGreat

set_option linter.unusedVariables false
set_option linter.unusedSimpArgs false
namespace Go.Proofs.YtkmfjlfejdoehaaGreat
open Go.Proofs Go.RowKit Go.Shelf Go.Eng
attribute [local go_sem] Oper.semAt_some
theorem kept_cell {Kx : Nat → Go.Obj → Prop} {A B : World} (h : Kept Kx A B) {p : Addr} (hk : ∀ o, A.heap[p.block]? = some o → Kx p.block o) {v : Value} (hc : A.cell? p = some v) : B.cell? p = some v := by
  unfold World.cell? at hc ⊢
  cases ho : A.heap[p.block]? with
  | none => simp [ho] at hc
  | some o => rw [h.same _ o ho (hk o ho)]; rw [ho] at hc; exact hc
theorem cell_lt {A : World} {p : Addr} {v : Value} (hc : A.cell? p = some v) : p.block < A.heap.size := by
  unfold World.cell? at hc
  cases ho : A.heap[p.block]? with
  | none => simp [ho] at hc
  | some o => exact (Array.getElem?_eq_some_iff.1 ho).1
theorem cell_alloc {A : World} (o : Go.Obj) {p : Addr} {v : Value} (hc : A.cell? p = some v) : (A.alloc o).cell? p = some v :=
  (((Below.refl _ A).alloc (Nat.le_refl _) o).cell (p := p) (cell_lt hc)).trans hc
theorem ownFrom_kept {β : Type} {Kx : Nat → Go.Obj → Prop} {A : World} {B : Nat} (hB : A.heap.size ≤ B) : OwnFrom B (fun (_ : β) W => Kept Kx A W) := fun _ X Y row hs hg hr =>
  ⟨Nat.le_trans hs.size hg.size, fun b o hb hk => by
    have h1 := hs.same b o hb hk
    refine (hg.block b (Array.getElem?_eq_some_iff.1 h1).1 (fun e => ?_)).trans h1
    have := (hr b e.symm).1
    have := (Array.getElem?_eq_some_iff.1 hb).1
    omega⟩
def backs (vs : List Value) : List (Int × Value) := ((List.range vs.length).map fun (i : Nat) => ((i : Int), vs[i]?.getD undef)).reverse
theorem backs_len (vs : List Value) : (backs vs).length = vs.length := by simp [backs]
theorem backs_at (vs : List Value) {k : Nat} (h0 : 0 < k) (h : k ≤ vs.length) : backs vs = (backs vs).take (vs.length - k) ++ (((k - 1 : Nat) : Int), vs[k - 1]?.getD undef) :: (backs vs).drop (vs.length - k + 1) := by
  have hl : vs.length - k < (backs vs).length := by rw [backs_len]; omega
  conv => lhs; rw [← List.take_append_drop (vs.length - k) (backs vs)]
  rw [List.drop_eq_getElem_cons hl]
  congr 2
  simp only [backs, List.getElem_reverse, List.getElem_map, List.getElem_range, List.length_map, List.length_range]
  rw [show vs.length - 1 - (vs.length - k) = k - 1 by omega]
theorem backs_mem {vs : List Value} {x : Int × Value} (h : x ∈ backs vs) : ∃ i : Nat, i < vs.length ∧ x = ((i : Int), vs[i]?.getD undef) := by
  rw [backs, List.mem_reverse, List.mem_map] at h
  obtain ⟨i, hi, rfl⟩ := h
  exact ⟨i, List.mem_range.1 hi, rfl⟩
theorem round_any {F : Fence} (hF : F = Fence.wide) {n m : Nat} {P : Program} {l f : Nat} {tmps : Array Value} {assign body : Code} {w : World} {R : Ending → World → Prop} (h : RoundIn F n P l f tmps assign body w R) : RoundIn F m P l f tmps assign body w R := by
  subst hF; exact ⟨h.1, fun c cs _ => h.2 c cs (room_wide _)⟩
theorem backs_step (vs : List Value) {k : Nat} (h0 : 0 < k) (h : k ≤ vs.length) : (backs vs).take (vs.length - (k - 1)) = (backs vs).take (vs.length - k) ++ [(((k - 1 : Nat) : Int), vs[k - 1]?.getD undef)] := by
  conv => lhs; rw [backs_at vs h0 h]
  have hl : ((backs vs).take (vs.length - k)).length = vs.length - k := by rw [List.length_take, backs_len]; omega
  rw [List.take_append, hl, List.take_of_length_le (by omega), show vs.length - (k - 1) - (vs.length - k) = 1 by omega]; rfl
set_option maxRecDepth 100000 in
set_option maxHeartbeats 2000000 in
theorem back1_in (F : Fence) (n : Nat) (h7 : F.fn 210) (hro : F.round = none) (hn : 1 ≤ n) (l Bs : Nat) (ad : Addr) (cap : Nat) (vs : List Value) (hreach : vs.length ≤ 1000000) (Kx : Nat → Go.Obj → Prop) (J : List (Int × Value) → World → Prop)
    (W : World) (hY : ∀ pre x post W1, backs vs = pre ++ x :: post → W.heap.size ≤ W1.heap.size → J pre W1 → YieldAt F (n - 1) Tryz.prog l #[.int .i64 x.1, x.2] W1 fun e W' => e = .returned (.bool true) ∧ J (pre ++ [x]) W' ∧ Kept Kx W1 W')
    (hBs : W.cell? ⟨Bs, 0, none⟩ = some (.slice (some ad) vs.length cap)) (hc : ∀ j, j < vs.length → W.cell? (ad.add j) = some (vs[j]?.getD undef)) (hKs : ∀ o, W.heap[Bs]? = some o → Kx Bs o) (hKb : 0 < vs.length → ∀ o, W.heap[ad.block]? = some o → Kx ad.block o) (h0 : J [] W) :
    CallsIn F n Tryz.prog 210 #[.func (.yield l) #[] #[], .pointer (some ⟨Bs, 0, none⟩)] W fun e W' => (∃ v, e = .returned v) ∧ J (backs vs) W' := by
  refine callsIn_of_wp Tryz.func210 rfl h7 ?_ hro
  simp only [Tryz.ntmps210, List.size_toArray, List.length_cons, List.length_nil, Nat.reduceAdd, Nat.reduceSub, Array.replicate_succ, Array.replicate_zero, List.push_toArray, List.append_toArray, List.nil_append, List.cons_append]
  gi_wp2
  gi_loopw [3] (fun i wr => ∃ k : Nat, k ≤ vs.length ∧ i = .int .i64 ((k : Int) - 1) ∧ J ((backs vs).take (vs.length - k)) wr ∧ Kept Kx W wr) (fun i _ => (intOf i + 1).toNat)
  case atStart => exact ⟨vs.length, Nat.le_refl _, rfl, by rw [Nat.sub_self]; exact h0, Kept.refl _⟩
  case round =>
    obtain ⟨k, hk, rfl, hJs, hnx⟩ := hrel
    by_cases hlt : 0 < k
    · have hat := backs_at vs hlt hk
      obtain ⟨fn, tmps, assign, body, hy, hR⟩ := hY _ _ _ wr hat hnx.size hJs
      have hBs' := kept_cell hnx (p := ⟨Bs, 0, none⟩) hKs hBs
      have hc' := kept_cell hnx (p := ad.add (k - 1)) (by rw [add_block]; exact hKb (by omega)) (hc (k - 1) (by omega))
      obtain ⟨q, rfl⟩ : ∃ q, k = q + 1 := ⟨k - 1, by omega⟩
      rw [show ((q + 1 : Nat) : Int) - 1 = (q : Int) by omega] at *
      rw [Nat.add_sub_cancel] at *
      dsimp only at hy
      gi_wp2
      refine hR.mono ?_
      rintro e W3 ⟨rfl, hJ3, hk3⟩
      gi_wp2
      go_roundw
      case rel => exact ⟨q, by omega, rfl, by have := backs_step vs hlt hk; rw [Nat.add_sub_cancel] at this; rw [this]; exact hJ3, hnx.trans hk3⟩
      case measure => simp [intOf]
    · obtain rfl : k = 0 := by omega
      gi_wp2
      go_end0
      refine ⟨⟨_, rfl⟩, ?_⟩
      rw [Nat.sub_zero, List.take_of_length_le (by rw [backs_len]; omega)] at hJs
      exact hJs
set_option maxRecDepth 100000 in
set_option maxHeartbeats 1000000 in
theorem back1_nil_in (F : Fence) (n : Nat) (h7 : F.fn 210) (hro : F.round = none) (l Bs : Nat) (J : List (Int × Value) → World → Prop) (W : World) (hBs : W.cell? ⟨Bs, 0, none⟩ = some (.slice none 0 0)) (h0 : J [] W) :
    CallsIn F n Tryz.prog 210 #[.func (.yield l) #[] #[], .pointer (some ⟨Bs, 0, none⟩)] W fun e W' => (∃ v, e = .returned v) ∧ J [] W' := by
  refine callsIn_of_wp Tryz.func210 rfl h7 ?_ hro
  simp only [Tryz.ntmps210, List.size_toArray, List.length_cons, List.length_nil, Nat.reduceAdd, Nat.reduceSub, Array.replicate_succ, Array.replicate_zero, List.push_toArray, List.append_toArray, List.nil_append, List.cons_append]
  gi_wp2
  gi_loopw [3] (fun i wr => i = .int .i64 (-1) ∧ J [] wr) (fun _ _ => 0)
  case atStart => exact ⟨rfl, h0⟩
  case round =>
    obtain ⟨rfl, hJs⟩ := hrel
    gi_wp2
    go_end0
    exact ⟨⟨_, rfl⟩, hJs⟩
set_option maxHeartbeats 1000000 in
theorem back_in (F : Fence) (n : Nat) (h5 : F.fn 169) (hro : F.round = none) (a : Option Addr) (len cap : Nat) (w : World) :
    CallsIn F n Tryz.prog 169 #[.slice a len cap] w fun e w' => e = .returned (.func (.func 210) #[] #[.pointer (some ⟨w.heap.size, 0, none⟩)]) ∧ w' = w.alloc (.cells #[.slice a len cap] 69) := by
  refine callsIn_of_wp Tryz.func169 rfl h5 ?_ hro
  simp only [Tryz.ntmps169, List.size_toArray, List.length_cons, List.length_nil, Nat.reduceAdd, Nat.reduceSub, Array.replicate_succ, Array.replicate_zero, List.push_toArray, List.append_toArray, List.nil_append, List.cons_append]
  gi_wp2
  go_ret
  exact ⟨rfl, rfl⟩
def Holds (W : World) (P : Nat → Prop) (sv : Value) (vs : List Value) : Prop :=
  (sv = .slice none 0 0 ∧ vs = []) ∨ ∃ ad cap, sv = .slice (some ad) vs.length cap ∧ ∀ j, j < vs.length → P ad.block ∧ W.cell? (ad.add j) = some (vs[j]?.getD undef)
theorem back_all (F : Fence) (n : Nat) (h7 : F.fn 210) (hro : F.round = none) (hn : 1 ≤ n) (Bs : Nat) (sv : Value) (vs : List Value) (hreach : vs.length ≤ 1000000) (Kx : Nat → Go.Obj → Prop) (w : World) (hKs : ∀ o, w.heap[Bs]? = some o → Kx Bs o)
    (hb : Bs < w.heap.size) (hBs : w.cell? ⟨Bs, 0, none⟩ = some sv) (hv : Holds w (fun b => b < w.heap.size ∧ ∀ o, w.heap[b]? = some o → Kx b o) sv vs) :
    SeqAll F n Tryz.prog 210 #[.pointer (some ⟨Bs, 0, none⟩)] (fun x : Int × Value => #[Value.int .i64 x.1, x.2]) Kx (backs vs) 0 w := fun l J W hW _ _ hY0 h0 => by
  have hY : ∀ pre x post W1, backs vs = pre ++ x :: post → W.heap.size ≤ W1.heap.size → J pre W1 → YieldAt F (n - 1) Tryz.prog l #[.int .i64 x.1, x.2] W1 fun e W' => e = .returned (.bool true) ∧ J (pre ++ [x]) W' ∧ Kept Kx W1 W' := fun pre x post W1 h1 h2 h3 => hY0 pre x post W1 h1 (by have := hW.size; omega) h3
  have hBs' := (hW.cell (p := ⟨Bs, 0, none⟩) hb).trans hBs
  rcases hv with ⟨rfl, rfl⟩ | ⟨ad, cap, rfl, hc⟩
  · exact back1_nil_in F n h7 hro l Bs J W hBs' h0
  · exact back1_in F n h7 hro hn l Bs ad cap vs hreach Kx J W hY hBs' (fun j hj => (hW.cell (p := ad.add j) (by rw [add_block]; exact (hc j hj).1.1)).trans (hc j hj).2) (fun o ho => hKs o ((hW.block _ hb).symm.trans ho)) (fun h1 o ho => (hc 0 h1).1.2 o ((hW.block _ (hc 0 h1).1.1).symm.trans ho)) h0
def msgV (kd : Int) (ky : ByteArray) (tx ts : Int) (gn : Bool) (va : ByteArray) : Value := .agg #[.int .u8 kd, .string ky, .int .i64 tx, .int .i64 ts, .bool gn, .string va]
def HoldsM (W : World) (P : Nat → Prop) (sv : Value) (ms : List Value) : Prop :=
  (sv = .slice none 0 0 ∧ ms = []) ∨ ∃ ad cap, sv = .slice (some ad) ms.length cap ∧ ∀ j, j < ms.length → P ad.block ∧ ∃ (kd : Int) (ky : ByteArray) (tx ts : Int) (gn : Bool) (va : ByteArray), ms[j]? = some (msgV kd ky tx ts gn va) ∧ W.cell? (ad.add (j * 6)) = some (.int .u8 kd) ∧ W.cell? ((ad.add (j * 6)).add 1) = some (.string ky) ∧ W.cell? ((ad.add (j * 6)).add 2) = some (.int .i64 tx) ∧ W.cell? ((ad.add (j * 6)).add 3) = some (.int .i64 ts) ∧ W.cell? ((ad.add (j * 6)).add 4) = some (.bool gn) ∧ W.cell? ((ad.add (j * 6)).add 5) = some (.string va)
def msOf (mss : List (List Value)) (x : Int × Value) : List Value := mss[x.1.toNat]?.getD []
set_option maxRecDepth 100000 in
set_option maxHeartbeats 4000000 in
theorem ups1_in (F : Fence) (n : Nat) (hany : ∀ (m : Nat) {l f : Nat} {tmps : Array Value} {assign body : Code} {w : World} {R : Ending → World → Prop}, RoundIn F (n - 1) Tryz.prog l f tmps assign body w R → RoundIn F m Tryz.prog l f tmps assign body w R) (h8 : F.fn 168) (h9 : F.fn 169) (h10 : F.fn 210) (hro : F.round = none) (hn : 6 ≤ n) (l Bs : Nat) (sv : Value) (vs : List Value) (mss : List (List Value)) (hreach : vs.length ≤ 1000000) (hreach2 : ∀ i : Nat, (mss[i]?.getD []).length ≤ 1000000)
    (Kx : Nat → Go.Obj → Prop) (hnc : ∀ b o, o.isCells = false → Kx b o) (J : List Value → World → Prop) (W : World) (hJ : OwnFrom W.heap.size J)
    (hY : ∀ pre x post W1, (backs vs).flatMap (msOf mss) = pre ++ x :: post → W.heap.size + 2 ≤ W1.heap.size → J pre W1 → YieldAt F (n - 1) Tryz.prog l #[x] W1 fun e W' => e = .returned (.bool true) ∧ J (pre ++ [x]) W' ∧ Kept Kx W1 W')
    (hBs : W.cell? ⟨Bs, 0, none⟩ = some sv) (hK1 : Kx W.heap.size (.cells #[.func (.yield l) #[] #[]] 149 (0, 0))) (hK2 : Kx (W.heap.size + 1) (.cells #[sv] 69 (0, 0)))
    (hsl : ∃ a len cap, sv = .slice a len cap) (hv : Holds W (fun b => b < W.heap.size ∧ ∀ o, W.heap[b]? = some o → Kx b o) sv vs)
    (hm : ∀ i, i < vs.length → HoldsM W (fun b => b < W.heap.size ∧ ∀ o, W.heap[b]? = some o → Kx b o) (vs[i]?.getD undef) (mss[i]?.getD [])) (h0 : J [] W) :
    CallsIn F n Tryz.prog 168 #[.func (.yield l) #[] #[], .pointer (some ⟨Bs, 0, none⟩)] W fun e W' => (∃ v, e = .returned v) ∧ J ((backs vs).flatMap (msOf mss)) W' := by
  have h1 : 1 ≤ n := by omega
  obtain ⟨a, len, cap, rfl⟩ := hsl
  refine callsIn_of_wp_marks Tryz.func168 rfl h8 ?_ hro
  simp only [Tryz.ntmps168, List.size_toArray, List.length_cons, List.length_nil, Nat.reduceAdd, Nat.reduceSub, Array.replicate_succ, Array.replicate_zero, List.push_toArray, List.append_toArray, List.nil_append, List.cons_append]
  have hBs1 := cell_alloc (.cells #[.func (.yield l) #[] #[]] 149) hBs
  gi_wp2_with (gi_at_call 169; refine (back_in F (n - 1) h9 hro _ _ _ _).mono ?_; rintro e w' ⟨rfl, rfl⟩)
  obtain ⟨W1, hW1⟩ : ∃ W1, (W.alloc (.cells #[.func (.yield l) #[] #[]] 149)).alloc (.cells #[.slice a len cap] 69) = W1 := ⟨_, rfl⟩
  have hs1 : W1.heap.size = W.heap.size + 2 := by rw [← hW1]; simp
  have hb1 : W1.heap[W.heap.size]? = some (.cells #[.func (.yield l) #[] #[]] 149 (0, 0)) := by rw [← hW1]; exact (Below.heap_alloc _ _ _ (by simp)).trans (World.alloc_heap_new _ _)
  have hb2 : W1.heap[W.heap.size + 1]? = some (.cells #[.slice a len cap] 69 (0, 0)) := by
    rw [← hW1]; have := World.alloc_heap_new (W.alloc (.cells #[.func (.yield l) #[] #[]] 149)) (.cells #[.slice a len cap] 69); rwa [World.size_alloc] at this
  have hWW : Below W.heap.size W W1 := by rw [← hW1]; exact ((Below.refl _ W).alloc (Nat.le_refl _) _).alloc (by simp) _
  have hJ1 : J [] W1 := by rw [← hW1]; exact hJ.alloc _ (hJ.alloc _ h0)
  have hc1 : W1.cell? ⟨W.heap.size, 0, none⟩ = some (.func (.yield l) #[] #[]) := by unfold World.cell?; rw [hb1]; rfl
  have hc2 : W1.cell? ⟨W.heap.size + 1, 0, none⟩ = some (.slice a len cap) := by unfold World.cell?; rw [hb2]; rfl
  rw [hW1]
  clear hW1 hBs1
  refine range_all hro h1 (gf := 210) (lb := #[.pointer (some ⟨W.heap.size + 1, 0, none⟩)]) rfl h10 (enters_of Tryz.func210 (by kernel_rfl) rfl)
    (back_all F (n - 1) h10 hro (by omega) (W.heap.size + 1) (.slice a len cap) vs hreach Kx W1 (fun o ho => by rw [hb2] at ho; cases ho; exact hK2) (by omega) hc2 ?holds) (fun _ => rfl) hnc
    (fun pre W' => J (pre.flatMap (msOf mss)) W' ∧ Kept Kx W1 W')
    (OwnFrom.and (fun s A B row hs hg hr => hJ _ A B row hs hg (fun r e => ⟨by have := (hr r e).1; omega, (hr r e).2⟩)) (ownFrom_kept (Nat.le_refl _)))
    ⟨hJ1, Kept.refl _⟩
    (fun pre x a' W' => (J (pre.flatMap (msOf mss)) W' ∧ Kept Kx W1 W') ∧ a' = { tmps := #[.func (.yield l) #[] #[], .pointer (some ⟨Bs, 0, none⟩), .pointer (some ⟨W.heap.size, 0, none⟩), undef, x.2, undef, undef, .slice a len cap, .func (.func 210) #[] #[.pointer (some ⟨W.heap.size + 1, 0, none⟩)], .int .i64 x.1, x.2, undef, undef, undef, undef, undef, undef, undef, undef, undef, undef, undef], defers := [] })
    (fun pre x a' => OwnFrom.and (OwnFrom.and (fun s A B row hs hg hr => hJ _ A B row hs hg (fun r e => ⟨by have := (hr r e).1; omega, (hr r e).2⟩)) (ownFrom_kept (Nat.le_refl _))) (ownFrom_pure _ (fun _ => _)))
    ?assign ?body ?done
  case holds =>
    rcases hv with ⟨h2, h3⟩ | ⟨ad, cap', h2, h5⟩
    · exact .inl ⟨h2, h3⟩
    · exact .inr ⟨ad, cap', h2, fun j hj => ⟨⟨by have := (h5 j hj).1.1; omega, fun o ho => (h5 j hj).1.2 o ((hWW.block _ (h5 j hj).1.1).symm.trans ho)⟩, (hWW.cell (p := ad.add j) (by rw [add_block]; exact (h5 j hj).1.1)).trans (h5 j hj).2⟩⟩
  case assign =>
    rintro l2 pre x post W' hxs _ ⟨hJ2, hk2⟩
    gi_wp2
    exact ⟨⟨⟨hJ2, hk2⟩, trivial⟩, Kept.refl _⟩
  case done =>
    rintro D W' hD ⟨hJ2, hk2⟩ hd
    gi_wp2
    refine ⟨by simp, .inl ⟨_, _, rfl, run_takeDeferred hd, ?_⟩⟩
    exact ⟨_, results_none rfl _ _ _, ⟨_, rfl⟩, hJ.putObj _ hJ2 (by omega) hd rfl⟩
  case body =>
    rintro l2 pre x post a' W' hxs _ ⟨⟨hJ2, hk2⟩, rfl⟩
    obtain ⟨i, hi, rfl⟩ := backs_mem (show x ∈ backs vs by rw [hxs]; simp)
    have hms : msOf mss ((i : Int), vs[i]?.getD undef) = mss[i]?.getD [] := by simp [msOf]
    have hfl : (backs vs).flatMap (msOf mss) = pre.flatMap (msOf mss) ++ (mss[i]?.getD [] ++ post.flatMap (msOf mss)) := by rw [hxs, List.flatMap_append, List.flatMap_cons, hms]
    have hpr : (pre ++ [((i : Int), vs[i]?.getD undef)]).flatMap (msOf mss) = pre.flatMap (msOf mss) ++ mss[i]?.getD [] := by rw [List.flatMap_append, List.flatMap_cons, hms]; simp
    rw [hpr]
    dsimp only
    have hml := hreach2 i
    have hmi := hm i hi
    generalize mss[i]?.getD [] = ms at *
    rcases hmi with ⟨h2, rfl⟩ | ⟨ad, cap', h2, h5⟩
    · rw [h2]
      gi_wp2
      gi_loopw [13] (fun i wr => i = .int .i64 0 ∧ J (pre.flatMap (msOf mss)) wr ∧ Kept Kx W1 wr ∧ Kept Kx W' wr) (fun _ _ => 0)
      case atStart => exact ⟨rfl, hJ2, hk2, Kept.refl _⟩
      case round =>
        obtain ⟨rfl, hJ3, hk3, hk4⟩ := hrel
        gi_wp2
        exact hJ3
    · rw [h2]
      gi_wp2
      gi_loopw [13] (fun i wr => ∃ k : Nat, k ≤ ms.length ∧ i = .int .i64 k ∧ J (pre.flatMap (msOf mss) ++ ms.take k) wr ∧ Kept Kx W1 wr ∧ Kept Kx W' wr) (fun i _ => ms.length - (intOf i).toNat)
      case atStart => exact ⟨0, Nat.zero_le _, rfl, by rw [List.take_zero, List.append_nil]; exact hJ2, hk2, Kept.refl _⟩
      case round =>
        obtain ⟨k, hk, rfl, hJ3, hk3, hk4⟩ := hrel
        by_cases hlt : k < ms.length
        · obtain ⟨⟨h3, h4⟩, kd, ky, tx, ts, gn, va, hmk, k0, k1, k2, k3, k4, k5⟩ := h5 k hlt
          have kk : ∀ {p : Addr} {c : Value}, p.block = ad.block → W.cell? p = some c → wr.cell? p = some c := fun {p} {c} e hc => by
            exact kept_cell hk3 (by rw [e]; exact fun o ho => h4 o ((hWW.block _ h3).symm.trans ho)) ((hWW.cell (p := p) (by rw [e]; exact h3)).trans hc)
          replace k0 := kk (p := ad.add (k * 6)) (by rw [add_block]) k0
          replace k1 : wr.cell? ⟨(ad.add (k * 6)).block, (ad.add (k * 6)).off + 1, none⟩ = some (.string ky) := kk (p := (ad.add (k * 6)).add 1) (by rw [add_block, add_block]) k1
          replace k2 : wr.cell? ⟨(ad.add (k * 6)).block, (ad.add (k * 6)).off + 2, none⟩ = some (.int .i64 tx) := kk (p := (ad.add (k * 6)).add 2) (by rw [add_block, add_block]) k2
          replace k3 : wr.cell? ⟨(ad.add (k * 6)).block, (ad.add (k * 6)).off + 3, none⟩ = some (.int .i64 ts) := kk (p := (ad.add (k * 6)).add 3) (by rw [add_block, add_block]) k3
          replace k4 : wr.cell? ⟨(ad.add (k * 6)).block, (ad.add (k * 6)).off + 4, none⟩ = some (.bool gn) := kk (p := (ad.add (k * 6)).add 4) (by rw [add_block, add_block]) k4
          replace k5 : wr.cell? ⟨(ad.add (k * 6)).block, (ad.add (k * 6)).off + 5, none⟩ = some (.string va) := kk (p := (ad.add (k * 6)).add 5) (by rw [add_block, add_block]) k5
          have hcy := kept_cell hk3 (p := ⟨W.heap.size, 0, none⟩) (fun o ho => by rw [hb1] at ho; cases ho; exact hK1) hc1
          have hmd : ms = ms.take k ++ msgV kd ky tx ts gn va :: ms.drop (k + 1) := by
            conv => lhs; rw [← List.take_append_drop k ms]
            rw [List.drop_eq_getElem_cons hlt]
            rw [List.getElem?_eq_getElem hlt] at hmk
            rw [Option.some.inj hmk]
          have htk : ms.take (k + 1) = ms.take k ++ [msgV kd ky tx ts gn va] := by
            rw [List.take_add_one, hmk]; rfl
          have hx2 : (backs vs).flatMap (msOf mss) = (pre.flatMap (msOf mss) ++ ms.take k) ++ msgV kd ky tx ts gn va :: (ms.drop (k + 1) ++ post.flatMap (msOf mss)) := by
            rw [hfl]
            conv => lhs; rw [hmd]
            simp
          obtain ⟨fn, tmps, assign, body, hy, hR⟩ := hY _ _ _ (wr.alloc (.cells #[.int .u8 kd, .string ky, .int .i64 tx, .int .i64 ts, .bool gn, .string va] 34)) hx2 (by have := hk3.size; simp; omega) (hJ.alloc _ hJ3)
          replace hR := hany (n - 1 - 1 - 1) hR
          dsimp only [msgV] at hy
          have hcy1 := cell_alloc (.cells #[.int .u8 kd, .string ky, .int .i64 tx, .int .i64 ts, .bool gn, .string va] 34) hcy
          have hka := Kept.grown (Kx := Kx) (World.grownBy_alloc wr (.cells #[.int .u8 kd, .string ky, .int .i64 tx, .int .i64 ts, .bool gn, .string va] 34) none) (fun r e => by cases e)
          clear hmk hmd hx2 hfl
          gi_wp2
          refine ⟨fun _ => by omega, RoundIn.mono (F := F.inRound l2) hR ?_⟩
          rintro e W3 ⟨rfl, hJ4, hk5⟩
          gi_wp2
          go_roundw
          case rel => exact ⟨k + 1, by omega, by simp, by rw [htk, ← List.append_assoc]; exact hJ4, hk3.trans (hka.trans hk5), hk4.trans (hka.trans hk5)⟩
          case measure => simp [intOf]; omega
        · obtain rfl : k = ms.length := by omega
          gi_wp2
          rw [List.take_length] at hJ3; exact hJ3
theorem ups_all (Bs : Nat) (sv : Value) (vs : List Value) (mss : List (List Value)) (hreach : vs.length ≤ 1000000) (hreach2 : ∀ i : Nat, (mss[i]?.getD []).length ≤ 1000000)
    (Kx : Nat → Go.Obj → Prop) (hnc : ∀ b o, o.isCells = false → Kx b o) (w : World) (hfar : ∀ b vs t, w.heap.size ≤ b → b < w.heap.size + 4 → Kx b (.cells vs t (0, 0))) (hb : Bs < w.heap.size)
    (hBs : w.cell? ⟨Bs, 0, none⟩ = some sv) (hsl : ∃ a len cap, sv = .slice a len cap) (hv : Holds w (fun b => b < w.heap.size ∧ ∀ o, w.heap[b]? = some o → Kx b o) sv vs)
    (hm : ∀ i, i < vs.length → HoldsM w (fun b => b < w.heap.size ∧ ∀ o, w.heap[b]? = some o → Kx b o) (vs[i]?.getD undef) (mss[i]?.getD [])) (n : Nat) (hn : 6 ≤ n) :
    SeqAll Fence.wide n Tryz.prog 168 #[.pointer (some ⟨Bs, 0, none⟩)] (fun x : Value => #[x]) Kx ((backs vs).flatMap (msOf mss)) 4 w := fun l J W hW hsz hJ hY h0 => by
  have hs := hW.size
  have hkeep : ∀ b, b < w.heap.size ∧ (∀ o, w.heap[b]? = some o → Kx b o) → b < W.heap.size ∧ ∀ o, W.heap[b]? = some o → Kx b o := fun b h => ⟨by have := h.1; omega, fun o ho => h.2 o ((hW.block _ h.1).symm.trans ho)⟩
  refine ups1_in Fence.wide n (fun m {_ _ _ _ _ _ _} h => round_any rfl h) trivial trivial trivial rfl hn l Bs sv vs mss hreach hreach2 Kx hnc J W hJ (fun pre x post W1 h1 h2 h3 => hY pre x post W1 h1 (by omega) h3) ((hW.cell (p := ⟨Bs, 0, none⟩) hb).trans hBs) (hfar _ _ _ hs (by omega)) (hfar _ _ _ (by omega) (by omega)) hsl ?_ (fun i hi => ?_) h0
  · rcases hv with h | ⟨ad, cap, h2, h5⟩
    · exact .inl h
    · exact .inr ⟨ad, cap, h2, fun j hj => ⟨hkeep _ (h5 j hj).1, (hW.cell (p := ad.add j) (by rw [add_block]; exact (h5 j hj).1.1)).trans (h5 j hj).2⟩⟩
  · rcases hm i hi with h | ⟨ad, cap, h2, h5⟩
    · exact .inl h
    · refine .inr ⟨ad, cap, h2, fun j hj => ?_⟩
      obtain ⟨h3, kd, ky, tx, ts, gn, va, hmk, k0, k1, k2, k3, k4, k5⟩ := h5 j hj
      have kk : ∀ {p : Addr} {c : Value}, p.block = ad.block → w.cell? p = some c → W.cell? p = some c := fun {p} {c} e hc => (hW.cell (p := p) (by rw [e]; exact h3.1)).trans hc
      exact ⟨hkeep _ h3, kd, ky, tx, ts, gn, va, hmk, kk (by rw [add_block]) k0, kk (by rw [add_block, add_block]) k1, kk (by rw [add_block, add_block]) k2, kk (by rw [add_block, add_block]) k3, kk (by rw [add_block, add_block]) k4, kk (by rw [add_block, add_block]) k5⟩
end Go.Proofs.YtkmfjlfejdoehaaGreat

set_option linter.unusedVariables false
set_option linter.unusedSimpArgs false
set_option maxRecDepth 8000
set_option maxHeartbeats 1000000
namespace Go.Proofs.YtkmfjlfejdoehaaGreat
open Go.Eng Go.RowKit
def msgVal (m : Msg) : Value := msgV m.1 ⟨⟨m.2.1⟩⟩ m.2.2.1 m.2.2.2.1 m.2.2.2.2.1 ⟨⟨m.2.2.2.2.2⟩⟩
def msgA (m : Msg) : V := .agg [.i .u8 m.1, .s m.2.1, .i .i64 m.2.2.1, .i .i64 m.2.2.2.1, .b m.2.2.2.2.1, .s m.2.2.2.2.2]
theorem RV_msgA {C : Cx} {w : World} {g : Gh} {m : Msg} (h : Eng.Good MsgT m) : RV C w g (msgA m) (msgVal m) := by
  obtain ⟨h1, h2, h3, h4, h5, h6⟩ := h
  simp only [msgA, RV, RVs]
  exact ⟨[_, _, _, _, _, _], rfl, _, _, rfl, ⟨rfl, h1⟩, _, _, rfl, ⟨rfl, h2⟩, _, _, rfl, ⟨rfl, h3⟩, _, _, rfl, ⟨rfl, h4⟩, _, _, rfl, rfl, _, _, rfl, ⟨rfl, h6⟩, rfl⟩
theorem holdsM_of_rep {w : World} {F : Nat → Prop} {ms : List Msg} {sv : Value} (h : rep w F (.slice MsgT) ms [sv]) : HoldsM w F sv (ms.map msgVal) := by
  obtain ⟨A, cap, h1, h2, h3, h4, h5⟩ := h
  obtain rfl : sv = .slice A ms.length cap := by simpa using h1
  cases A with
  | none =>
    obtain rfl := h4 rfl
    obtain rfl : ms = [] := List.eq_nil_of_length_eq_zero (by omega)
    exact .inl ⟨rfl, rfl⟩
  | some ad =>
    refine .inr ⟨ad, cap, by rw [List.length_map], fun j hj => ?_⟩
    rw [List.length_map] at hj
    obtain ⟨a, ci, ha, hf, hc, hr⟩ := h5 j hj
    cases ha
    obtain ⟨c1, r1, rfl, ⟨rfl, -⟩, c2, r2, rfl, ⟨rfl, -⟩, c3, r3, rfl, ⟨rfl, -⟩, c4, r4, rfl, ⟨rfl, -⟩, c5, c6, rfl, rfl, ⟨rfl, -⟩⟩ := hr
    have hm : (ms.map msgVal)[j]? = some (msgVal ms[j]) := by rw [List.getElem?_map, List.getElem?_eq_getElem hj]; rfl
    refine ⟨hf, _, _, _, _, _, _, hm, ?_, ?_, ?_, ?_, ?_, ?_⟩
    · have := hc 0 _ rfl; exact this
    · rw [add_add]; exact hc 1 _ rfl
    · rw [add_add]; exact hc 2 _ rfl
    · rw [add_add]; exact hc 3 _ rfl
    · rw [add_add]; exact hc 4 _ rfl
    · rw [add_add]; exact hc 5 _ rfl
theorem choose_list {P : Nat → Value → Prop} : ∀ n, (∀ i, i < n → ∃ v, P i v) → ∃ vs : List Value, vs.length = n ∧ ∀ i, i < n → P i (vs[i]?.getD undef)
  | 0, _ => ⟨[], rfl, fun i hi => by omega⟩
  | n + 1, h => by
    obtain ⟨vs, h1, h2⟩ := choose_list n fun i hi => h i (by omega)
    obtain ⟨v, hv⟩ := h n (by omega)
    refine ⟨vs ++ [v], by simp [h1], fun i hi => ?_⟩
    by_cases hin : i < n
    · rw [List.getElem?_append_left (by omega)]; exact h2 i hin
    · obtain rfl : i = n := by omega
      rw [List.getElem?_append_right (by omega), h1]; simpa using hv
theorem holds_of_rep {w : World} {F : Nat → Prop} {ls : List (List Msg)} {sv : Value} (h : rep w F (.slice (.slice MsgT)) ls [sv]) :
    ∃ vs : List Value, vs.length = ls.length ∧ Holds w F sv vs ∧ (∀ i, i < vs.length → HoldsM w F (vs[i]?.getD undef) ((ls.map fun l => l.map msgVal)[i]?.getD [])) ∧ ∃ a len cap, sv = .slice a len cap := by
  obtain ⟨A, cap, h1, h2, h3, h4, h5⟩ := h
  obtain rfl : sv = .slice A ls.length cap := by simpa using h1
  cases A with
  | none =>
    obtain rfl := h4 rfl
    obtain rfl : ls = [] := List.eq_nil_of_length_eq_zero (by omega)
    exact ⟨[], rfl, .inl ⟨rfl, rfl⟩, fun i hi => by simp at hi, _, _, _, rfl⟩
  | some ad =>
    obtain ⟨vs, hl, hv⟩ := choose_list (P := fun i v => F ad.block ∧ w.cell? (ad.add i) = some v ∧ ∃ h : i < ls.length, rep w F (.slice MsgT) ls[i] [v]) ls.length fun i hi => by
      obtain ⟨a, ci, ha, hf, hc, hr⟩ := h5 i hi
      cases ha
      have hr' := hr
      obtain ⟨A', cap', e, _⟩ := hr'
      subst e
      refine ⟨_, hf, ?_, hi, hr⟩
      have := hc 0 _ rfl
      rw [show i * Ty.cells (.slice MsgT) + 0 = i from by show i * 1 + 0 = i; omega] at this
      exact this
    refine ⟨vs, hl, .inr ⟨ad, cap, by rw [hl], fun j hj => ⟨(hv j (by omega)).1, (hv j (by omega)).2.1⟩⟩, fun i hi => ?_, _, _, _, rfl⟩
    obtain ⟨_, _, hi', hr⟩ := hv i (by omega)
    have : (ls.map fun l => l.map msgVal)[i]?.getD [] = ls[i].map msgVal := by rw [List.getElem?_map, List.getElem?_eq_getElem hi']; rfl
    rw [this]
    exact holdsM_of_rep hr
theorem backs_ordL {vs : List Value} {ls : List (List Msg)} (hl : vs.length = ls.length) : (backs vs).flatMap (msOf (ls.map fun l => l.map msgVal)) = (ordL ls).map msgVal := by
  have h1 : ((List.range vs.length).map fun (i : Nat) => ((i : Int), vs[i]?.getD undef)).map (msOf (ls.map fun l => l.map msgVal)) = ls.map fun l => l.map msgVal := by
    apply List.ext_getElem
    · simp [hl]
    · intro j h1 h2
      have h3 : j < ls.length := by simpa using h2
      simp [msOf, h3]
  rw [List.flatMap_def, backs, List.map_reverse, h1, ordL, List.map_flatten, List.map_reverse]
def allNamed (ids : List Nat) : Heap → Bool
  | [] => true
  | (k, o) :: r => (!o.mut || ids.contains k) && allNamed ids r
theorem allNamed_look {ids : List Nat} : ∀ {h : Heap}, allNamed ids h = true → ∀ {id : Nat} {o : Eng.Obj}, lookN h id = some o → o.mut = true → id ∈ ids
  | [], _, _, _, hc, _ => by simp [lookN] at hc
  | (k, o') :: r, hn, id, o, hc, hm => by
    simp only [allNamed, Bool.and_eq_true] at hn
    simp only [lookN] at hc
    cases hb : Nat.beq k id
    · rw [hb] at hc; exact allNamed_look hn.2 hc hm
    · rw [hb] at hc
      simp only [Option.some.injEq] at hc
      subst hc
      obtain rfl := Nat.eq_of_beq_eq_true hb
      simpa [hm] using hn.1
theorem seq_pre {C : Cx} {N : Nat} {keep : List (Nat × List Nat)} {T : Tab} {S : Specs} (hpin : pinsOf keep = C.pins) (hT : TabOk C.P T) (hS : SpecsOk C.P S) (hmix : C.P.follows .mixedOrders = true) {x y : Code} {st st1 : St} {a : Act} {w : World} {g : Gh} {n : Nat} {Q : Exit → Act → World → Prop} (hok : codeOk N x = true)
    (hs : vc T S keep x st (roundK st1)) (r : RelT C N st a w g) (hy : ∀ a w g, RelT C N st1 a w g → y.wpIn Fence.wide n C.P Q a w) : (Code.seq x y).wpIn Fence.wide n C.P Q a w :=
  wpIn_seq (wpIn_wide.2 (vc_sound hpin hT hS hmix x st _ a w g hok hs r _ fun e s a w g hk r => by
    cases e with
    | normal => obtain rfl := Leaf.out hk; exact hy a w g r
    | exit id => exact hk.elim
    | ret => exact hk.elim
    | goto l => exact hk.elim))
structure StOk (ids : List Nat) (st : St) : Prop where
  pin : pinned ids st.heap = true
  len : ids.length ≤ st.heap.length
  map : noMap st.heap = true
  fine : fineH st.heap = true
  env : st.env.all (fun p => p.2.fine) = true
set_option maxHeartbeats 2000000 in
theorem range_ups {C : Cx} (hP : C.P = Tryz.prog) (hC : C.pins = ([], 0)) {N : Nat} {ids : List Nat} {keep : List (Nat × List Nat)} (hpin : pinsOf keep = (ids, ids.length)) {T : Tab} {S : Specs} (hT : TabOk C.P T) (hS : SpecsOk C.P S)
    {ls : List (List Msg)} (hls : ls.length ≤ 1000000) (hfl : ∀ l ∈ ls, l.length ≤ 1000000) (hgood : ∀ m ∈ ordL ls, Eng.Good MsgT m) {assign body : Code} {p d kb : Nat} {Q : Exit → Act → World → Prop} (hp : p < N)
    (hoa : codeOk N assign = true) (hia : inOk assign = true) (hob : codeOk N body = true) (hib : inOk body = true)
    (stI stA stB : Nat → St) {a2 : Act} {w2 : World} {g2 : Gh} {st2 : St} (r2 : RelT C N st2 a2 w2 g2)
    (hd : lookN st2.env d = some (.fn 168 [.ptr kb 0])) (hkb : lookN st2.heap kb = some (.box [.sl (.slice MsgT) ls]))
    (hn0 : allNamed ids st2.heap = true) (hst0 : (stI 0).heap = st2.heap) (hen : ∀ k, (stI k).env = (stI 0).env)
    (hE : ∀ t v, lookN (stI 0).env t = some v → lookN st2.env t = some v ∧ ∃ j, j ∈ ids ∧ v = .ptr j 0)
    (okI : ∀ k, StOk ids (stI k)) (okA : ∀ k, StOk ids (stA k)) (okB : ∀ k, StOk ids (stB k)) (hB : ∀ k, (stB k).heap = (stI (k + 1)).heap)
    (hva : ∀ k, k < (ordL ls).length → vc T S keep assign ⟨(p, msgA ((ordL ls).getD k msg0)) :: (stI k).env, (stI k).heap⟩ (roundK (stA k)))
    {kp : List Nat} (hvb : ∀ k, k < (ordL ls).length → vc T S keep body (stA k) (roundN ids kp (stB k)))
    (hQ : ∀ (E : Nat) (W : World), C.w0.heap.size ≤ E → StI C N ids g2.anch (w2.heap.size + 4) w2.heap.size (stI (ordL ls).length) a2 W → W.heap[E]? = some (.deferred (some [])) →
      Q .normal { a2 with defers := { target := .collected E, args := #[] } :: a2.defers } W) {n : Nat} :
    (Code.rangeFunc (.tmp d) #[p] assign body).wpIn Fence.wide n C.P Q a2 w2 := by
  refine wpIn_wide.2 (wpIn_wide (n := 10).1 ?_)
  -- the closure, the box of the levels, what it holds
  obtain ⟨x, hx1, hx2⟩ := r2.E d _ hd
  simp only [RV, RVs] at hx2
  obtain ⟨us, rfl, xv, xs', rfl, ⟨-, ad, had, rfl⟩, rfl⟩ := hx2
  obtain ⟨hUk, blk, us, te, hb1, hb2, hb3, -, hb5⟩ := r2.H.obj kb _ hkb
  simp only [RVs, RV] at hb3
  obtain ⟨sv, xs', rfl, hrep, rfl⟩ := hb3
  rw [had] at hb1
  obtain rfl : ad = ⟨blk, 0, none⟩ := by simpa using hb1
  obtain ⟨vs, hvl, hH, hHM, hsl⟩ := holds_of_rep hrep
  have hbs : w2.cell? ⟨blk, 0, none⟩ = some sv := by unfold World.cell?; rw [hb2]; rfl
  have hF := r2.H.F
  have hw0 := r2.H.size
  let Kx : Nat → Go.Obj → Prop := fun b o => o.isCells = false ∨ g2.F b ∨ (w2.heap.size ≤ b ∧ b < w2.heap.size + 4)
  have hup := ups_all blk sv vs (ls.map fun l => l.map msgVal) (by omega) (fun i => by
      rw [List.getElem?_map]
      cases hi : ls[i]? with
      | none => simp
      | some l => simpa using hfl l (List.mem_of_getElem? hi)) Kx (fun b o h => .inl h) w2 (fun b vs t h1 h2 => .inr (.inr ⟨h1, h2⟩)) (Array.getElem?_eq_some_iff.1 hb2).1 hbs hsl
    (by
      rcases hH with h | ⟨ad, cap, h1, h2⟩
      · exact .inl h
      · exact .inr ⟨ad, cap, h1, fun j hj => ⟨⟨hF _ (h2 j hj).1, fun o _ => .inr (.inl (h2 j hj).1)⟩, (h2 j hj).2⟩⟩)
    (fun i hi => by
      rcases hHM i hi with h | ⟨ad, cap, h1, h2⟩
      · exact .inl h
      · exact .inr ⟨ad, cap, h1, fun j hj => ⟨⟨hF _ (h2 j hj).1, fun o _ => .inr (.inl (h2 j hj).1)⟩, (h2 j hj).2⟩⟩) 9 (by omega)
  rw [backs_ordL hvl] at hup
  have hpi0 : ∀ j, j ∈ ids → ∃ o, lookN st2.heap j = some o ∧ o.mut = true := fun j hj => by
    obtain ⟨o, h1, h2⟩ := pinned_look (st := stI 0) (okI 0).pin hj
    rw [hst0] at h1; exact ⟨o, h1, h2⟩
  have hK1 : ∀ j ∈ ids, ∀ b (o : Go.Obj), ablk (g2.anch j) = some b → o.isCells = true → ¬ Kx b o := fun j hj b o hb ho hk => by
    obtain ⟨o', h1, h2⟩ := hpi0 j hj
    obtain ⟨h3, h4⟩ := RO_block (r2.H.obj j o' h1).2 h2 hb
    rcases hk with h5 | h5 | ⟨h5, -⟩
    · rw [ho] at h5; cases h5
    · exact h4.2 h5
    · omega
  have hK2 : ∀ b (o : Go.Obj), w2.heap.size + 4 ≤ b → o.isCells = true → ¬ Kx b o := fun b o hb ho hk => by
    rcases hk with h5 | h5 | ⟨-, h5⟩
    · rw [ho] at h5; cases h5
    · have := hF b h5; omega
    · omega
  have hpe : ∀ k, PinEnv ids g2.anch (stI k).heap a2.tmps (stI 0).env := fun k t v ht => by
    obtain ⟨h1, j, hj, rfl⟩ := hE t v ht
    obtain ⟨o, ho, -⟩ := pinned_look (okI k).pin hj
    obtain ⟨y, h2, h3⟩ := r2.E t _ h1
    simp only [RV] at h3
    obtain ⟨-, ad, h4, rfl⟩ := h3
    exact ⟨j, ad, rfl, hj, ⟨o, ho⟩, h4, h2⟩
  have hI0 : StI C N ids g2.anch (w2.heap.size + 4) w2.heap.size (stI 0) a2 w2 := by
    have e0 : stI 0 = ⟨(stI 0).env, st2.heap⟩ := by rw [← hst0]
    rw [e0]
    refine ⟨g2, ⟨⟨r2.H, fun t v ht => r2.E t v (hE t v ht).1, r2.ub, r2.sz, r2.df⟩, fun b hb h1 => absurd (hF b hb) (by omega), fun _ _ => rfl, fun id o b ho hm hid _ => absurd (allNamed_look hn0 ho hm) hid⟩⟩
  have hmem : ∀ k, k < (ordL ls).length → Eng.Good MsgT ((ordL ls).getD k msg0) := fun k hk => hgood _ (getD_mem (xs := ordL ls) msg0 hk)
  have hlen : ∀ {pre : List Value} {x : Value} {post : List Value}, (ordL ls).map msgVal = pre ++ x :: post → pre.length < (ordL ls).length ∧ x = msgVal ((ordL ls).getD pre.length msg0) := fun {pre x post} h => by
    have h1 : pre.length < (ordL ls).length := by have := congrArg List.length h; simp at this; omega
    refine ⟨h1, ?_⟩
    have h2 := congrArg (fun l => l[pre.length]?) h
    simp only [List.getElem?_map, List.getElem?_eq_getElem h1, List.getElem?_append_right (Nat.le_refl _), Nat.sub_self, List.getElem?_cons_zero, Option.map_some, Option.some.injEq] at h2
    rw [← h2, List.getD_eq_getElem?_getD, List.getElem?_eq_getElem h1]; rfl
  have hdf := r2.df
  rw [hP]
  refine range_all (P := Tryz.prog) (F := Fence.wide) (n := 10) rfl (by omega) (gf := 168) (lb := #[.pointer (some ⟨blk, 0, none⟩)]) ?hg trivial (enters_of Tryz.func168 (by kernel_rfl) rfl) hup (fun _ => rfl) (fun b o h => .inl h)
    (fun pre W => StI C N ids g2.anch (w2.heap.size + 4) w2.heap.size (stI pre.length) a2 W) (StI.own (fun pre : List Value => stI pre.length) (fun _ => a2) (fun pre => (okI pre.length).map) hw0) hI0
    (fun pre x a' W => StI C N ids g2.anch (w2.heap.size + 4) w2.heap.size (stA pre.length) a' W) (fun pre x a' => StI.own (fun _ : Unit => stA pre.length) (fun _ => a') (fun _ => (okA _).map) hw0) ?assign ?body ?done
  case hg =>
    simp only [Act.eval, Array.getD_eq_getD_getElem?, hx1, Option.getD_some]
    rfl
  case assign =>
    intro l pre x post W hxs hD hI
    obtain ⟨hk, rfl⟩ := hlen hxs
    have k1 := hI.more (t := p) (v := msgA ((ordL ls).getD pre.length msg0)) (x := msgVal ((ordL ls).getD pre.length msg0)) hp (fun w g => RV_msgA (hmem _ hk))
    have h9 := StI.step (st := ⟨(p, msgA ((ordL ls).getD pre.length msg0)) :: (stI pre.length).env, (stI pre.length).heap⟩) (st' := stA pre.length) (l := l) (m := 10 - 1 - 1) hC hpin hT hS hoa hia (okI _).pin (okA _).pin (okI _).len (okA _).len (okI _).map (okA _).env (okA _).fine (hva _ hk) hK1 hK2 k1 hD
    rw [hP] at h9
    have ha : ({ a2 with tmps := a2.tmps.setIfInBounds p (msgVal ((ordL ls).getD pre.length msg0)) } : Act) = { tmps := (#[p].zip #[msgVal ((ordL ls).getD pre.length msg0)]).foldl (fun t (q : Tmp × Value) => t.setIfInBounds q.1 q.2) a2.tmps, defers := [] } := by
      rw [hdf]; simp
    rw [ha] at h9
    refine wpIn_mono h9 fun e a w h => ?_
    obtain ⟨rfl, h1, h2⟩ := h
    exact ⟨h1, h2⟩
  case body =>
    intro l pre x post a' W hxs hD hI
    obtain ⟨hk, rfl⟩ := hlen hxs
    have h9 := StI.stepN (kp := kp) (st := stA pre.length) (st' := stB pre.length) (l := l) (m := 10 - 1 - 1) hC hpin hT hS hob hib (okA _).pin (okB _).pin (okA _).len (okB _).len (okA _).map (okB _).env (okB _).fine (hvb _ hk) hK1 hK2 hI hD
    rw [hP] at h9
    refine wpIn_mono h9 fun e a w h => ?_
    obtain ⟨rfl, h1, h2⟩ := h
    refine ⟨rfl, ?_, h2⟩
    have h3 := h1.reenv (a2 := a2) (env2 := (stI 0).env) (by rw [hB]; exact hpe _) r2.sz hdf
    rw [hB] at h3
    have e1 : (pre ++ [msgVal ((ordL ls).getD pre.length msg0)]).length = pre.length + 1 := by simp
    rw [e1]
    have e2 : stI (pre.length + 1) = ⟨(stI 0).env, (stI (pre.length + 1)).heap⟩ := by rw [← hen (pre.length + 1)]
    rw [e2]; exact h3
  case done =>
    intro E W hE hI hd'
    rw [List.length_map] at hI
    exact hQ E W (Nat.le_trans hw0 hE) hI hd'
end Go.Proofs.YtkmfjlfejdoehaaGreat

set_option linter.unusedVariables false
set_option linter.unusedSimpArgs false
set_option maxRecDepth 8000
set_option maxHeartbeats 4000000
namespace Go.Proofs.YtkmfjlfejdoehaaGreat
open Go.Eng Go.RowKit
theorem start_rel {C : Cx} {w : World} {g : Gh} {h : Heap} {N : Nat} {args : List V} {vals : List Value} (R : RelH C h w g) (hU : ∀ id, g.U id → id < frN C.pins h) (hn : vals.length ≤ N) (hv : RVs C w g args vals) :
    RelT C N ⟨paramEnv 0 args, h⟩ { tmps := vals.toArray ++ Array.replicate (N - vals.toArray.size) undef, defers := [] } w g := by
  have hsz : (vals.toArray ++ Array.replicate (N - vals.toArray.size) undef).size = N := by simp; omega
  refine ⟨R, fun t v ht => ?_, hU, hsz, rfl⟩
  obtain ⟨_, h2⟩ := paramEnv_look args 0 t v ht
  rw [Nat.sub_zero] at h2
  obtain ⟨x, h3, h4⟩ := RVs_at hv h2
  refine ⟨x, ?_, h4⟩
  have hlt := (List.getElem?_eq_some_iff.1 h3).1
  simp only
  rw [Array.getElem?_append_left (by simpa using hlt)]
  simpa using h3
theorem good_ordL {ls : List (List Msg)} (h : ∀ l ∈ ls, ∀ m ∈ l, Eng.Good MsgT m) : ∀ m ∈ ordL ls, Eng.Good MsgT m := fun m hm => by
  rw [ordL, List.mem_flatten] at hm
  obtain ⟨l, h1, h2⟩ := hm
  exact h l (List.mem_reverse.1 h1) m h2
def msgO (m : Msg) : Eng.Obj := .box [.i .u8 m.1, .s m.2.1, .i .i64 m.2.2.1, .i .i64 m.2.2.2.1, .b m.2.2.2.2.1, .s m.2.2.2.2.2]
def orI (ls : List (List Msg)) : Nat → St
  | 0 => ⟨[(3, .ptr 0 0)], [(0, .box [.nil]), (1, .box [.sl (.slice MsgT) ls])]⟩
  | k + 1 => ⟨[(3, .ptr 0 0)], [(0, .box [.own 2]), (1, .box [.sl (.slice MsgT) ls]), (2, .arr 34 MsgT ((ordL ls).take (k + 1)))]⟩
def orA (ls : List (List Msg)) : Nat → St
  | 0 => ⟨[(3, .ptr 0 0), (4, .ptr 2 0)], [(0, .box [.nil]), (1, .box [.sl (.slice MsgT) ls]), (2, msgO ((ordL ls).getD 0 msg0))]⟩
  | k + 1 => ⟨[(3, .ptr 0 0), (4, .ptr 2 0)], [(0, .box [.own 3]), (1, .box [.sl (.slice MsgT) ls]), (2, msgO ((ordL ls).getD (k + 1) msg0)), (3, .arr 34 MsgT ((ordL ls).take (k + 1)))]⟩
def orKeep : List (Nat × List Nat) := [(3000000, [0, 1]), (3, [3, 4]), (4, [3])]
theorem len_flat {l : List Msg} : ∀ {ls : List (List Msg)}, l ∈ ls → l.length ≤ ls.flatten.length
  | [], h => by cases h
  | x :: r, h => by
    rw [List.flatten_cons, List.length_append]
    rcases List.mem_cons.1 h with rfl | h
    · omega
    · have := len_flat h; omega
theorem take_snoc {l : List Msg} {k : Nat} (h : k < l.length) : l.take (k + 1) = l.take k ++ [l.getD k msg0] := by
  rw [List.take_add_one, List.getElem?_eq_getElem h, List.getD_eq_getElem?_getD, List.getElem?_eq_getElem h]; rfl
theorem fUps : FnOk Tryz.prog 104 := ⟨_, Tryz.func104, by decide, rfl⟩
noncomputable def iUps : Eng.Spec := inl tab (spOf []) k104 Tryz.f104
theorem pUps : SpecOk Tryz.prog 104 iUps := inl_ok tabOk spNil (by kernel_rfl) Tryz.func104 (by kernel_rfl)
def sOrder : PSpec := sOrderR
theorem fOrder : FnOk Tryz.prog 44 := ⟨_, Tryz.func44, by decide, rfl⟩
theorem pOrder : PSound Tryz.prog 44 sOrder := by
  refine psoundC fun w F xs vals hF hv hpre => ?_
  have hg := argsV_good _ _ _ hv
  obtain ⟨ls, ⟨⟩⟩ := xs
  change List (List Msg) at ls
  change ls.length ≤ 100 ∧ ls.flatten.length ≤ 100000 at hpre
  refine (callsIn_wide (n := 10)).1 (callsIn_of_wp_marks Tryz.func44 rfl trivial ?_)
  have hvl := RVs_len hv
  have r0 := start_rel (N := 13) (RelH.at Tryz.prog w F hF) (fun id h => h.elim) (by rw [hvl]; exact Nat.le_of_ble_eq_true rfl) hv
  change RelT _ _ ⟨[(0, .sl (.slice MsgT) ls)], []⟩ _ _ _ at r0
  refine seq_pre (C := Cx.at Tryz.prog w F) (keep := [(0, [0])]) (T := tab) (S := (spOf [(104, iUps)])) (st1 := ⟨[(0, .sl (.slice MsgT) ls)], []⟩) rfl tabOk (spCons (.inl ⟨pUps, fUps⟩) spNil) (by kernel_rfl) (by kernel_rfl) ?v1 r0 fun a1 w1 g1 r1 => ?_
  case v1 =>
    refine Ev.out ?_
    repeat' (first | ((with_reducible refine Ev.mk ?_); conv => whnf) | (with_reducible refine And.intro ?_ ?_) | (intro h))
    exact Leaf.mk rfl
  refine seq_pre (C := Cx.at Tryz.prog w F) (keep := [(1, [0, 3])]) (T := tab) (S := (spOf [(104, iUps)])) (st1 := ⟨[(0, .sl (.slice MsgT) ls), (3, .ptr 0 0)], [(0, .box [.nil])]⟩) rfl tabOk (spCons (.inl ⟨pUps, fUps⟩) spNil) (by kernel_rfl) (by kernel_rfl) ?v1 r1 fun a2 w2 g2 r2 => ?_
  case v1 =>
    refine Ev.out ?_
    repeat' (first | ((with_reducible refine Ev.mk ?_); conv => whnf) | (with_reducible refine And.intro ?_ ?_) | (intro h))
    exact Leaf.mk rfl
  refine wpIn_seq ?_
  refine seq_pre (C := Cx.at Tryz.prog w F) (keep := [(2, [3, 6])]) (T := tab) (S := (spOf [(104, iUps)])) (st1 := ⟨[(3, .ptr 0 0), (6, .fn 168 [.ptr 1 0])], [(0, .box [.nil]), (1, .box [.sl (.slice MsgT) ls])]⟩) rfl tabOk (spCons (.inl ⟨pUps, fUps⟩) spNil) (by kernel_rfl) (by kernel_rfl) ?v1 r2 fun a3 w3 g3 r3 => ?_
  case v1 =>
    refine Ev.out ?_
    repeat' (first | ((with_reducible refine Ev.mk ?_); conv => whnf) | (with_reducible refine And.intro ?_ ?_) | (intro h))
    exact Leaf.mk rfl
  clear r0 r1 r2
  refine wpIn_block ?_
  have hlo := ordL_len ls
  refine range_ups (ids := [0, 1]) (keep := orKeep) (kp := [3]) (T := tab) (S := (spOf [(104, iUps)])) rfl rfl (N := 13) rfl tabOk (spCons (.inl ⟨pUps, fUps⟩) spNil) (by omega) ?hfl ?hgood (by decide) (by kernel_rfl) (by kernel_rfl) (by kernel_rfl) (by kernel_rfl) (orI ls) (orA ls) (fun k => orI ls (k + 1)) r3 rfl rfl (by kernel_rfl) rfl ?hen ?hE ?okI ?okA ?okB ?hB ?hva ?hvb ?hQ
  case hfl => exact fun l hl => Nat.le_trans (len_flat hl) (by omega)
  case hgood => exact good_ordL fun l hl m hm => (hg.1.2 l hl).2 m hm
  case hen => intro k; cases k <;> rfl
  case hE =>
    intro t v ht
    have := lookN_mem _ _ _ ht
    simp only [orI, List.mem_singleton, Prod.mk.injEq] at this
    obtain ⟨rfl, rfl⟩ := this
    exact ⟨rfl, 0, by simp, rfl⟩
  case okI => intro k; cases k <;> exact ⟨rfl, Nat.le_of_ble_eq_true rfl, rfl, rfl, rfl⟩
  case okA => intro k; cases k <;> exact ⟨rfl, Nat.le_of_ble_eq_true rfl, rfl, rfl, rfl⟩
  case okB => intro k; exact ⟨rfl, Nat.le_of_ble_eq_true rfl, rfl, rfl, rfl⟩
  case hB => intro k; rfl
  case hva =>
    intro k hk
    cases k
    · refine Ev.out ?_
      repeat' (first | ((with_reducible refine Ev.mk ?_); conv => whnf) | (with_reducible refine And.intro ?_ ?_) | (intro h))
      exact Leaf.mk rfl
    · refine Ev.out ?_
      repeat' (first | ((with_reducible refine Ev.mk ?_); conv => whnf) | (with_reducible refine And.intro ?_ ?_) | (intro h))
      exact Leaf.mk rfl
  case hvb =>
    intro k hk
    have ht := take_snoc hk
    have h9 := List.length_take_le k (ordL ls)
    cases k
    · refine Ev.out ?_
      repeat' (first | ((with_reducible refine Ev.mk ?_); conv => whnf) | (with_reducible refine And.intro ?_ ?_) | (intro h))
      · exact Leaf.mk (by simp)
      · exact Leaf.mk (by simp [maxLen])
      · refine Leaf.mk ?_
        simp only [orI, ht]; rfl
    · refine Ev.out ?_
      repeat' (first | ((with_reducible refine Ev.mk ?_); conv => whnf) | (with_reducible refine And.intro ?_ ?_) | (intro h))
      · exact Leaf.mk (by rw [List.length_singleton]; omega)
      · exact Leaf.mk (by rw [List.length_singleton]; unfold maxLen; omega)
      · refine Leaf.mk ?_
        simp only [orI, ht]
  case hQ =>
    intro E W hE hI hd
    cases hn : (ordL ls).length with
    | zero =>
      rw [hn] at hI
      refine StI.ends (keep := [(5, [2])]) (T := tab) (S := (spOf [(104, iUps)])) rfl rfl tabOk (spCons (.inl ⟨pUps, fUps⟩) spNil) (by kernel_rfl) (by kernel_rfl) (by kernel_rfl) ?_ hI rfl hd hE
      refine Ev.out ?_
      repeat' (first | ((with_reducible refine Ev.mk ?_); conv => whnf) | (with_reducible refine And.intro ?_ ?_) | (intro h))
      · exact Leaf.mk rfl
      · refine Ev.out ?_
        repeat' (first | ((with_reducible refine Ev.mk ?_); conv => whnf) | (with_reducible refine And.intro ?_ ?_) | (intro h))
        refine Leaf.mk (ret1 (show ([] : List Msg) = ordL ls from ?_))
        exact (List.eq_nil_of_length_eq_zero hn).symm
    | succ n =>
      rw [hn] at hI
      refine StI.ends (keep := [(5, [2])]) (T := tab) (S := (spOf [(104, iUps)])) rfl rfl tabOk (spCons (.inl ⟨pUps, fUps⟩) spNil) (by kernel_rfl) (by kernel_rfl) (by kernel_rfl) ?_ hI rfl hd hE
      refine Ev.out ?_
      repeat' (first | ((with_reducible refine Ev.mk ?_); conv => whnf) | (with_reducible refine And.intro ?_ ?_) | (intro h))
      · exact Leaf.mk rfl
      · refine Ev.out ?_
        repeat' (first | ((with_reducible refine Ev.mk ?_); conv => whnf) | (with_reducible refine And.intro ?_ ?_) | (intro h))
        refine Leaf.mk (ret1 (show (ordL ls).take (n + 1) = ordL ls from ?_))
        exact List.take_of_length_le (by omega)
end Go.Proofs.YtkmfjlfejdoehaaGreat

set_option linter.unusedVariables false
set_option linter.unusedSimpArgs false
set_option maxRecDepth 8000
set_option maxHeartbeats 4000000
namespace Go.Proofs.YtkmfjlfejdoehaaGreat
open Go.Eng Go.RowKit
def kyF (s : Stk) (ls : List (List Msg)) (k : Nat) : Stk := foldM s ((ordL ls).take k)
def kyI (s : Stk) (ls : List (List Msg)) (k : Nat) : St :=
  ⟨[(2, .ptr 0 0), (4, .ptr 1 0)], [(0, .box [.s (kyF s ls k).1, .sl VerT (kyF s ls k).2]), (1, .box [.s [], .nil]), (2, .box [.sl (.slice MsgT) ls])]⟩
def kyA (s : Stk) (ls : List (List Msg)) (k : Nat) : St :=
  ⟨[(2, .ptr 0 0), (4, .ptr 1 0), (5, .ptr 3 0)], [(0, .box [.s (kyF s ls k).1, .sl VerT (kyF s ls k).2]), (1, .box [.s [], .nil]), (2, .box [.sl (.slice MsgT) ls]), (3, msgO ((ordL ls).getD k msg0))]⟩
def kyKeep : List (Nat × List Nat) := [(3000000, [0, 1, 2]), (2, [2, 4, 5]), (3, [2, 4])]
theorem kyF_len (s : Stk) (ls : List (List Msg)) (k : Nat) : (kyF s ls k).2.length ≤ s.2.length + (ordL ls).length := by
  have := fold_len ((ordL ls).take k) s
  have h2 := List.length_take_le' k (ordL ls)
  unfold kyF; omega
def sKey : PSpec := sKeyR
theorem fKey : FnOk Tryz.prog 41 := ⟨_, Tryz.func41, by decide, rfl⟩
theorem pKey : PSound Tryz.prog 41 sKey := by
  refine psoundC fun w F xs vals hF hv hpre => ?_
  have hg := argsV_good _ _ _ hv
  obtain ⟨⟨skey, xs⟩, ls, ⟨⟩⟩ := xs
  change List UInt8 at skey
  change List Ver at xs
  change List (List Msg) at ls
  change ls.length ≤ 100 ∧ xs.length + ls.flatten.length ≤ 50000 at hpre
  refine (callsIn_wide (n := 10)).1 (callsIn_of_wp_marks Tryz.func41 rfl trivial ?_)
  have hvl := RVs_len hv
  have r0 := start_rel (N := 13) (RelH.at Tryz.prog w F hF) (fun id h => h.elim) (by rw [hvl]; exact Nat.le_of_ble_eq_true rfl) hv
  change RelT _ _ ⟨[(0, .agg [.s skey, .sl VerT xs]), (1, .sl (.slice MsgT) ls)], []⟩ _ _ _ at r0
  refine seq_pre (C := Cx.at Tryz.prog w F) (keep := [(0, [1, 2, 4])]) (T := tab) (S := (spOf [(104, iUps)])) (st1 := ⟨[(1, .sl (.slice MsgT) ls), (2, .ptr 0 0), (4, .ptr 1 0)], [(0, .box [.s skey, .sl VerT xs]), (1, .box [.s [], .nil])]⟩) rfl tabOk (spCons (.inl ⟨pUps, fUps⟩) spNil) (by kernel_rfl) (by kernel_rfl) ?v1 r0 fun a1 w1 g1 r1 => ?_
  case v1 =>
    refine Ev.out ?_
    repeat' (first | ((with_reducible refine Ev.mk ?_); conv => whnf) | (with_reducible refine And.intro ?_ ?_) | (intro h))
    exact Leaf.mk rfl
  refine wpIn_seq ?_
  refine seq_pre (C := Cx.at Tryz.prog w F) (keep := [(1, [2, 4, 7])]) (T := tab) (S := (spOf [(104, iUps)])) (st1 := ⟨[(2, .ptr 0 0), (4, .ptr 1 0), (7, .fn 168 [.ptr 2 0])], [(0, .box [.s skey, .sl VerT xs]), (1, .box [.s [], .nil]), (2, .box [.sl (.slice MsgT) ls])]⟩) rfl tabOk (spCons (.inl ⟨pUps, fUps⟩) spNil) (by kernel_rfl) (by kernel_rfl) ?v1 r1 fun a3 w3 g3 r3 => ?_
  case v1 =>
    refine Ev.out ?_
    repeat' (first | ((with_reducible refine Ev.mk ?_); conv => whnf) | (with_reducible refine And.intro ?_ ?_) | (intro h))
    exact Leaf.mk rfl
  clear r0 r1
  refine wpIn_block ?_
  have hlo := ordL_len ls
  refine range_ups (ids := [0, 1, 2]) (keep := kyKeep) (kp := [2, 4]) (T := tab) (S := (spOf [(104, iUps), (69, sApply.spec (lsOf []))])) rfl rfl (N := 13) rfl tabOk (spCons (.inl ⟨pUps, fUps⟩) (spCons (pOk pApply fApply (by decide) lsNil) spNil)) (by omega) ?hfl ?hgood (by decide) (by kernel_rfl) (by kernel_rfl) (by kernel_rfl) (by kernel_rfl) (kyI (skey, xs) ls) (kyA (skey, xs) ls) (fun k => kyI (skey, xs) ls (k + 1)) r3 rfl rfl (by kernel_rfl) rfl ?hen ?hE ?okI ?okA ?okB ?hB ?hva ?hvb ?hQ
  case hfl => exact fun l hl => Nat.le_trans (len_flat hl) (by omega)
  case hgood => exact good_ordL fun l hl m hm => (hg.2.1.2 l hl).2 m hm
  case hen => intro k; rfl
  case hE =>
    intro t v ht
    have := lookN_mem _ _ _ ht
    simp only [kyI, List.mem_cons, List.not_mem_nil, or_false, Prod.mk.injEq] at this
    rcases this with ⟨rfl, rfl⟩ | ⟨rfl, rfl⟩
    · exact ⟨rfl, 0, by simp, rfl⟩
    · exact ⟨rfl, 1, by simp, rfl⟩
  case okI => intro k; exact ⟨rfl, Nat.le_of_ble_eq_true rfl, rfl, rfl, rfl⟩
  case okA => intro k; exact ⟨rfl, Nat.le_of_ble_eq_true rfl, rfl, rfl, rfl⟩
  case okB => intro k; exact ⟨rfl, Nat.le_of_ble_eq_true rfl, rfl, rfl, rfl⟩
  case hB => intro k; rfl
  case hva =>
    intro k hk
    refine Ev.out ?_
    repeat' (first | ((with_reducible refine Ev.mk ?_); conv => whnf) | (with_reducible refine And.intro ?_ ?_) | (intro h))
    exact Leaf.mk rfl
  case hvb =>
    intro k hk
    have hat : kyF (skey, xs) ls (k + 1) = applyM (kyF (skey, xs) ls k) ((ordL ls).getD k msg0) := foldl_at msg0 hk
    have hlen := kyF_len (skey, xs) ls k
    refine Ev.out ?_
    repeat' (first | ((with_reducible refine Ev.mk ?_); conv => whnf) | (with_reducible refine And.intro ?_ ?_) | (intro h))
    · exact Leaf.mk (show (kyF (skey, xs) ls k).2.length ≤ 100000 from by
        have h3 : (skey, xs).2.length = xs.length := rfl
        omega)
    · refine Leaf.mk ?_
      rw [kyI, hat]; rfl
  case hQ =>
    intro E W hE hI hd
    have hend : kyF (skey, xs) ls (ordL ls).length = foldM (skey, xs) (ordL ls) := by rw [kyF, List.take_length]
    refine StI.ends (keep := [(4, [4])]) (T := tab) (S := (spOf [(104, iUps)])) rfl rfl tabOk (spCons (.inl ⟨pUps, fUps⟩) spNil) (by kernel_rfl) (by kernel_rfl) (by kernel_rfl) ?_ hI rfl hd hE
    refine Ev.out ?_
    repeat' (first | ((with_reducible refine Ev.mk ?_); conv => whnf) | (with_reducible refine And.intro ?_ ?_) | (intro h))
    · exact Leaf.mk rfl
    · refine Ev.out ?_
      repeat' (first | ((with_reducible refine Ev.mk ?_); conv => whnf) | (with_reducible refine And.intro ?_ ?_) | (intro h))
      exact Leaf.mk (ret1 (show kyF (skey, xs) ls (ordL ls).length = foldM (skey, xs) (ordL ls) from hend))
end Go.Proofs.YtkmfjlfejdoehaaGreat
