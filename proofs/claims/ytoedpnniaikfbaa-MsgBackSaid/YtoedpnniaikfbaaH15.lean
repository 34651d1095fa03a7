import Derived.Test.YtoedpnniaikfbaaH13



set_option linter.unusedVariables false
set_option linter.unusedSimpArgs false
set_option maxRecDepth 8000
set_option maxHeartbeats 4000000
namespace Go.Proofs.Ytoedpnniaikfbaa
open Go.Eng
def lay (l : List Msg) : List Int := l.flatMap putM
theorem lay_at {l : List Msg} {i : Nat} (h : i < l.length) : lay (l.take (i + 1)) = lay (l.take i) ++ putM (l.getD i msg0) := flatMap_at msg0 h
theorem lay_drop {l : List Msg} {i : Nat} (h : i < l.length) : lay (l.drop i) = putM (l.getD i msg0) ++ lay (l.drop (i + 1)) := by
  rw [drop_at msg0 h]; rfl
theorem lay_len : ∀ (l : List Msg), (∀ m ∈ l, mcheck m = 0) → (lay l).length ≤ 104 * l.length
  | [], _ => Nat.le_refl _
  | m :: l, h => by
    have h1 := putM_len (h m List.mem_cons_self)
    have h2 := lay_len l (fun x hx => h x (List.mem_cons_of_mem _ hx))
    show (putM m ++ lay l).length ≤ _
    rw [List.length_append, List.length_cons]; omega
theorem getD_mem {l : List Msg} {i : Nat} (h : i < l.length) : l.getD i msg0 ∈ l := by
  rw [List.getD_eq_getElem?_getD, List.getElem?_eq_getElem h]; exact List.getElem_mem _
theorem all_at {l : List Msg} {i : Nat} (h : i < l.length) (ha : ∀ m ∈ l.take i, mcheck m = 0) (hm : mcheck (l.getD i msg0) = 0) : ∀ m ∈ l.take (i + 1), mcheck m = 0 := fun m hx => by
  rw [take_at msg0 h, List.mem_append, List.mem_singleton] at hx
  rcases hx with hx | hx
  · exact ha m hx
  · rw [hx]; exact hm
def sMsgBack : PSpec := lawSpec [MsT, BT]
theorem fMsgBack : FnOk Try.prog 6 := ⟨_, Try.func6, by decide, rfl⟩
theorem pMsgBack : PSound Try.prog 6 sMsgBack := by
  refine psound (T := tab) (S := (spOf [(14, sLightM.spec (lsOf [])), (15, sAwake12.spec (lsOf [])), (31, sMPut.spec (lsOf [])), (35, sMSize.spec (lsOf [])), (33, sMGet.spec (lsOf []))])) (keep := k6) (by kernel_rfl) tabOk (spCons (pOk pLightM fLightM (by decide) lsNil) (spCons (pOk pAwake12 fAwake12 (by decide) lsNil) (spCons (pOk pMPut fMPut (by decide) lsNil) (spCons (pOk pMSize fMSize (by decide) lsNil) (spCons (pOk pMGet fMGet (by decide) lsNil) spNil))))) (by kernel_rfl) Try.func6 (by kernel_rfl) (by decide) fun xs hg hp => ?_
  obtain ⟨l, t, ⟨⟩⟩ := xs
  obtain ⟨⟨-, hgl⟩, -⟩ := hg
  change List Msg at l
  change List Int at t
  have hm : ∀ m ∈ l, 0 ≤ m.1 ∧ m.1 ≤ 255 := fun m hm => bdu8 (hgl m hm).1
  clear hp hgl
  show vfun tab _ k6 Try.f6 [.sl MsgT l, .sl (.int .u8) t] [] _
  refine Ev.out ?_
  repeat' (first | ((with_reducible refine Ev.mk ?_); conv => whnf) | (with_reducible refine And.intro ?_ ?_) | (intro h))
  all_goals (try simp only [decide_eq_true_eq, decide_eq_false_iff_not, beq_iff_eq, bne_iff_ne, beq_eq_false_iff_ne, bne_eq_false_iff_eq, Int.toNat_natCast, ge_iff_le, gt_iff_lt, Bool.not_eq_true', Bool.not_eq_false', Int.not_lt, Int.not_le, ne_eq] at *)
  all_goals (try dsimp only [Ty.den, Ty.dflt, MsgT, sLightM] at *)
  all_goals (try simp only [eq4, ne4, eq3, ne3, eq2, ne2, Prod.eta, List.length_cons, List.length_nil, List.length_append, Nat.zero_add] at *)
  all_goals (try simp (disch := omega) only [wrap64] at *)
  all_goals try first | exact leafDraw (by kernel_rfl) | exact Leaf.mk trivial | (refine Leaf.mk ?_; omega) | (refine Leaf.mk ?_; unfold maxLen; omega)
  · exact Leaf.mk rfl
  · exact Leaf.mk rfl
  all_goals have hll := lightM_len ‹lightM l 20 = true›
  refine LoopVC.weak [(.slot 5, .nil 5 (.int .u8))] (fun i : Nat => [(6, .i .i64 i)]) (fun i => [(0, .arr 5 (.int .u8) (lay (l.take i)))]) (fun i => i ≤ l.length ∧ ∀ m ∈ l.take i, mcheck m = 0) (fun i => l.length - i) 0 (Ev.mk ?_)
  (conv => whnf)
  refine ⟨Leaf.mk rfl, Leaf.mk ?_, ?_⟩
  · exact ⟨by omega, by simp⟩
  intro i ⟨hi, ha⟩
  have htl : (l.take i).length ≤ i := by rw [List.length_take]; omega
  have hbl := lay_len _ ha
  repeat' (first | ((with_reducible refine Ev.mk ?_); conv => whnf) | (with_reducible refine And.intro ?_ ?_) | (intro h))
  all_goals (try simp only [decide_eq_true_eq, decide_eq_false_iff_not, beq_iff_eq, bne_iff_ne, beq_eq_false_iff_ne, bne_eq_false_iff_eq, Int.toNat_natCast, ge_iff_le, gt_iff_lt, Bool.not_eq_true', Bool.not_eq_false', Int.not_lt, Int.not_le, ne_eq] at *)
  all_goals (try dsimp only [Ty.den, Ty.dflt, MsgT, sMPut, sMSize] at *)
  all_goals (try simp only [eq4, ne4, eq3, ne3, eq2, ne2, Prod.eta, List.length_cons, List.length_nil, List.length_append, Nat.zero_add] at *)
  all_goals (try simp (disch := omega) only [wrap64] at *)
  all_goals try first | exact leafDraw (by kernel_rfl) | exact Leaf.mk trivial | (refine Leaf.mk ?_; omega) | (refine Leaf.mk ?_; unfold maxLen; omega)
  all_goals try first
    | exact Leaf.mk rfl
    | exact absurd trivial ‹¬ True›
    | exact absurd (show ((((putR12 (l.getD i msg0)).1.length : Nat)) : Int) = 0 from ‹_›) (by rw [(putR12_zero (m := l.getD i msg0) ‹_›).2, putM, List.length_cons]; omega)
    | (have h1 := putR12_zero ‹(putR12 _).2 = 0›
       have h2 := putM_len h1.1
       rw [← h1.2] at h2
       first
       | exact Leaf.mk (by omega)
       | exact Leaf.mk (by unfold maxLen; omega)
       | (refine Leaf.mk ⟨i + 1, ?_, ⟨by omega, all_at (by omega) ha h1.1⟩, by omega⟩
          rw [lay_at (by omega), h1.2]; rfl))
    | exact Leaf.mk (by omega)
    | exact Leaf.mk (by unfold maxLen; omega)
  have hil : l.take i = l := take_all (by omega)
  have ha : ∀ m ∈ l, mcheck m = 0 := by rw [hil] at ha; exact ha
  rw [hil]
  clear htl hil hbl
  refine LoopVC.weak [(.slot 5, .frz)] (fun j : Nat => [(5, .sl (.int .u8) (lay (l.drop j) ++ t)), (9, .i .i64 j)]) (fun _ => []) (fun j => j ≤ l.length) (fun j => l.length - j) 0 (Ev.mk ?_)
  (conv => whnf)
  refine ⟨Leaf.mk ?_, Leaf.mk ?_, ?_⟩
  · rfl
  · omega
  intro j hj
  have hDl : (lay (l.drop j) ++ t).length ≤ 3000 := by
    have h1 := lay_len (l.drop j) (fun m hm => ha m (List.mem_of_mem_drop hm))
    rw [List.length_drop] at h1
    rw [List.length_append]; omega
  have hD : j < l.length → getM (lay (l.drop j) ++ t) = (l.getD j msg0, (((putM (l.getD j msg0)).length : Nat) : Int), 0) ∧ getM ((lay (l.drop j) ++ t).take ((putM (l.getD j msg0)).length - 1)) = (msg0, 0, 4) ∧
      (lay (l.drop j) ++ t).drop (putM (l.getD j msg0)).length = lay (l.drop (j + 1)) ++ t ∧ 1 ≤ (putM (l.getD j msg0)).length ∧ (putM (l.getD j msg0)).length ≤ 104 ∧ (putM (l.getD j msg0)).length ≤ (lay (l.drop j) ++ t).length := fun h => by
    have hme := getD_mem h
    have hc := ha _ hme
    have hk := hm _ hme
    have hl0 : 1 ≤ (putM (l.getD j msg0)).length := by simp only [putM, List.length_cons]; omega
    have hl1 := putM_len hc
    rw [lay_drop h, List.append_assoc]
    refine ⟨getM_put hk.1 hc (List.prefix_append _ _), ?_, List.drop_left' rfl, hl0, hl1, by rw [List.length_append]; omega⟩
    rw [List.take_append_of_le_length (by omega)]
    exact getM_short hk.1 hk.2 hc (List.take_prefix _ _) (by rw [List.length_take]; omega)
  have hDn : l.length ≤ j → lay (l.drop j) ++ t = t := fun h => by rw [List.drop_eq_nil_of_le h]; rfl
  generalize hDD : lay (l.drop j) ++ t = D at *
  generalize hLL : (putM (l.getD j msg0)).length = L at *
  repeat' (first | ((with_reducible refine Ev.mk ?_); conv => whnf) | (with_reducible refine And.intro ?_ ?_) | (intro h))
  all_goals (try simp only [decide_eq_true_eq, decide_eq_false_iff_not, beq_iff_eq, bne_iff_ne, beq_eq_false_iff_ne, bne_eq_false_iff_eq, Int.toNat_natCast, ge_iff_le, gt_iff_lt, Bool.not_eq_true', Bool.not_eq_false', Int.not_lt, Int.not_le, ne_eq] at *)
  all_goals (try dsimp only [Ty.den, Ty.dflt, MsgT, sMGet] at *)
  all_goals (try simp only [eq4, ne4, eq3, ne3, eq2, ne2, Prod.eta, List.length_cons, List.length_nil, List.length_append, Nat.zero_add] at *)
  all_goals (try simp (disch := omega) only [wrap64] at *)
  all_goals try first | exact leafDraw (by kernel_rfl) | exact Leaf.mk trivial | (refine Leaf.mk ?_; omega) | (refine Leaf.mk ?_; unfold maxLen; omega)
  all_goals try
    have hjl : j < l.length := by omega
    obtain ⟨d1, d2, d3, d4, d5, d6⟩ := hD hjl
    have e3 : IntKind.i64.wrap ((L : Int) - 1) = ((L - 1 : Nat) : Int) := by rw [wrap64 (by omega)]; omega
    have e4 : (if 0 < ((L - 1 : Nat) : Int) then ((L - 1 : Nat) : Int) else 0) = ((L - 1 : Nat) : Int) := by split <;> omega
    simp only [d1, d2, d3, e3, e4, Int.toNat_natCast, Int.toNat_zero, List.drop_zero, take_all (Nat.le_refl D.length)] at *
  all_goals first
    | exact Leaf.mk rfl
    | exact absurd trivial ‹¬ True›
    | exact absurd rfl ‹¬ (0 : Int) = 0›
    | exact absurd rfl ‹¬ (4 : Int) = 4›
    | exact absurd rfl (ne6.1 ‹(_ && _) = false›)
    | (exfalso; omega)
    | exact Leaf.mk (by omega)
    | exact Leaf.mk (show D.length ≤ 100000 by omega)
    | exact Leaf.mk (show (D.take (L - 1)).length ≤ 100000 by rw [List.length_take]; omega)
    | exact Leaf.mk ⟨j + 1, rfl, by omega, by omega⟩
    | exact absurd (congrArg strOfBytes (hDn (by omega))) ‹_›
    | (trace_state; sorry)
end Go.Proofs.Ytoedpnniaikfbaa
