import Derived.Test.YtlfehkoklgmjjaaF6


set_option linter.unusedVariables false
set_option linter.unusedSimpArgs false
set_option maxRecDepth 8000
set_option maxHeartbeats 4000000
namespace Go.Proofs.Ytlfehkoklgmjjaa
open Go.Eng
def abort (s : Stk) (me : Int) : Stk := (s.1, s.2.filter (fun v => !roomP me v))
theorem fAbort1 : FnOk Try.prog 132 := ⟨_, Try.func132, by decide, rfl⟩
noncomputable def iAbort1 : Eng.Spec := inl tab (spOf []) k132 Try.f132
theorem pAbort1 : SpecOk Try.prog 132 iAbort1 := inl_ok tabOk spNil (by kernel_rfl) Try.func132 (by kernel_rfl)
theorem fWithoutA : FnOk Try.prog 131 := ⟨_, Try.func131, by decide, rfl⟩
noncomputable def iWithoutA : Eng.Spec := inl tab (spOf [(132, iAbort1)]) k131 Try.f131
theorem pWithoutA : SpecOk Try.prog 131 iWithoutA := inl_ok tabOk (spCons (.inl ⟨pAbort1, fAbort1⟩) spNil) (by kernel_rfl) Try.func131 (by kernel_rfl)
def sAbort : PSpec := ⟨[.d StT, .d (.int .i64)], [⟨true, [.d .str, .o 90 VerT]⟩], fun x => List.length x.1.2 ≤ 100000, fun x => (((abort x.1 x.2.1).1, ((abort x.1 x.2.1).2, ())), ())⟩
theorem fAbort : FnOk Try.prog 59 := ⟨_, Try.func59, by decide, rfl⟩
theorem pAbort : PSound Try.prog 59 sAbort := by
  refine psound (T := tab) (S := (spOf [(131, iWithoutA)])) (keep := k59) (by kernel_rfl) tabOk (spCons (.inl ⟨pWithoutA, fWithoutA⟩) spNil) (by kernel_rfl) Try.func59 (by kernel_rfl) (by decide) fun xs hg hp => ?_
  obtain ⟨⟨key, xs⟩, me, ⟨⟩⟩ := xs
  change List UInt8 at key
  change List Ver at xs
  change Int at me
  change xs.length ≤ 100000 at hp
  show vfun tab _ k59 Try.f59 [.agg [.s key, .sl VerT xs], .i .i64 me] [] _
  refine Ev.out ?_
  repeat' (first | ((with_reducible refine Ev.mk ?_); conv => whnf) | (with_reducible refine And.intro ?_ ?_) | (intro h))
  all_goals (try simp only [decide_eq_true_eq, decide_eq_false_iff_not, beq_iff_eq, bne_iff_ne, beq_eq_false_iff_ne, bne_eq_false_iff_eq, Int.toNat_natCast, ge_iff_le, gt_iff_lt, Bool.not_eq_true', Bool.not_eq_false', Int.not_lt, Int.not_le, ne_eq] at *)
  all_goals (try dsimp only [Ty.den, Ty.dflt, VerT] at *)
  all_goals (try simp only [eq4, ne4, eq3, ne3, eq2, ne2, Prod.eta, List.length_cons, List.length_nil, List.length_append, Nat.zero_add] at *)
  all_goals (try simp (disch := omega) only [wrap64] at *)
  all_goals try first | exact leafDraw (by kernel_rfl) | exact Leaf.mk trivial | (refine Leaf.mk ?_; omega) | (refine Leaf.mk ?_; unfold maxLen; omega)
  refine LoopVC.weak [(.slot 5, .nil 90 VerT)] (fun i : Nat => [(10, .i .i64 i)]) (fun i => [(27, .arr 90 VerT ((xs.take i).filter (fun v => !roomP me v)))]) (fun i => i ≤ xs.length) (fun i => xs.length - i) 0 (Ev.mk ?_)
  (conv => whnf)
  refine ⟨Leaf.mk rfl, Leaf.mk ?_, ?_⟩
  · omega
  intro i hi
  have hk := length_filter_take (xs := xs) (i := i) (p := fun v => !roomP me v)
  repeat' (first | ((with_reducible refine Ev.mk ?_); conv => whnf) | (with_reducible refine And.intro ?_ ?_) | (intro h))
  all_goals (try simp only [decide_eq_true_eq, decide_eq_false_iff_not, beq_iff_eq, bne_iff_ne, beq_eq_false_iff_ne, bne_eq_false_iff_eq, Int.toNat_natCast, ge_iff_le, gt_iff_lt, Bool.not_eq_true', Bool.not_eq_false', Int.not_lt, Int.not_le, ne_eq] at *)
  all_goals (try dsimp only [Ty.den, Ty.dflt, VerT] at *)
  all_goals (try simp only [eq4, ne4, eq3, ne3, eq2, ne2, Prod.eta, List.length_cons, List.length_nil, List.length_append, Nat.zero_add] at *)
  all_goals (try simp (disch := omega) only [wrap64] at *)
  all_goals try first | exact leafDraw (by kernel_rfl) | exact Leaf.mk trivial | (refine Leaf.mk ?_; omega) | (refine Leaf.mk ?_; unfold maxLen; omega)
  all_goals have hk := length_filter_take (xs := xs) (i := i) (p := fun v => !roomP me v)
  all_goals first
    | exact Leaf.mk (show (((xs.take i).filter (fun v => !roomP me v)).length + 1) * 40 ≤ 140737488355328 by omega)
    | exact Leaf.mk (show ((xs.take i).filter (fun v => !roomP me v)).length + 1 ≤ maxLen by unfold maxLen; omega)
    | (have hil : i = xs.length := by omega
       subst hil
       refine Leaf.mk (retS (s := abort (key, xs) me) ?_)
       rw [abort, List.take_length])
    | (refine Leaf.mk ⟨i + 1, ?_, by omega, by omega⟩
       rw [filter_at ver0 (by omega)]
       first
       | (rw [if_pos (show (!roomP me (xs.getD i ver0)) = true from ?_)]
          · rfl
          · rw [Bool.not_eq_true', ← Bool.not_eq_true]
            intro hc
            simp only [roomP, ver0, Bool.and_eq_true, beq_iff_eq] at hc
            first | exact h hc.1 | exact h hc.2)
       | (rw [if_neg (show ¬ (!roomP me (xs.getD i ver0)) = true from ?_), List.append_nil]
          · rfl
          · rw [Bool.not_eq_true', Bool.not_eq_false]
            simp only [roomP, ver0, Bool.and_eq_true, beq_iff_eq]
            exact ⟨‹_›, ‹_›⟩))
def sAwake11 : PSpec := ⟨[], [⟨false, [.d .bool]⟩], fun _ => True, fun _ => ((true, ()), ())⟩
theorem fAwake11 : FnOk Try.prog 46 := ⟨_, Try.func46, by decide, rfl⟩
theorem pAwake11 : PSound Try.prog 46 sAwake11 := by
  refine psound (T := tab) (S := (spOf [(57, sWrite.spec (lsOf [])), (58, sCommit.spec (lsOf [])), (56, sPending.spec (lsOf [])), (47, sSPut.spec (lsOf [])), (49, sSGet.spec (lsOf [])), (117, sPrune.spec (lsOf [])), (59, sAbort.spec (lsOf [])), (52, sSSame.spec (lsOf [])), (53, sCheck.spec (lsOf []))])) (keep := k46) (by kernel_rfl) tabOk (spCons (pOk pWrite fWrite (by decide) lsNil) (spCons (pOk pCommit fCommit (by decide) lsNil) (spCons (pOk pPending fPending (by decide) lsNil) (spCons (pOk pSPut fSPut (by decide) lsNil) (spCons (pOk pSGet fSGet (by decide) lsNil) (spCons (pOk pPrune fPrune (by decide) lsNil) (spCons (pOk pAbort fAbort (by decide) lsNil) (spCons (pOk pSSame fSSame (by decide) lsNil) (spCons (pOk pCheck fCheck (by decide) lsNil) spNil))))))))) (by kernel_rfl) Try.func46 (by kernel_rfl) (by decide) fun xs hg hp => ?_
  obtain ⟨⟩ := xs
  show vfun tab _ k46 Try.f46 [] [] _
  refine Ev.out ?_
  repeat' (first | ((with_reducible refine Ev.mk ?_); conv => whnf) | (with_reducible refine And.intro ?_ ?_) | (intro h; first | exact absurd h (by decide +kernel) | skip))
  all_goals first
    | exact Leaf.mk trivial
    | exact Leaf.mk rfl
    | exact leafDraw (by kernel_rfl)
    | exact Leaf.mk (by decide +kernel)
    | (refine Leaf.mk (?_ : List.length _ ≤ 100000); decide +kernel)
def sStackPuts : PSpec := lawSpec [StT, StT, BT]
theorem light_of {s : Stk} (h : light s = true) : s.1.length ≤ 100 ∧ s.2.length ≤ 12 := by
  unfold light at h
  rw [Bool.and_eq_true, Bool.and_eq_true] at h
  exact ⟨of_decide_eq_true h.1, of_decide_eq_true h.2.1⟩
theorem fStackPuts : FnOk Try.prog 8 := ⟨_, Try.func8, by decide, rfl⟩
theorem pStackPuts : PSound Try.prog 8 sStackPuts := by
  refine psound (T := tab) (S := (spOf [(45, sLight.spec (lsOf [])), (46, sAwake11.spec (lsOf [])), (47, sSPut.spec (lsOf [])), (48, sSPutR.spec (lsOf [])), (49, sSGet.spec (lsOf [])), (50, sSGetR.spec (lsOf [])), (52, sSSame.spec (lsOf [])), (51, sSSameR.spec (lsOf []))])) (keep := k8) (by kernel_rfl) tabOk (spCons (pOk pLight fLight (by decide) lsNil) (spCons (pOk pAwake11 fAwake11 (by decide) lsNil) (spCons (pOk pSPut fSPut (by decide) lsNil) (spCons (pOk pSPutR fSPutR (by decide) lsNil) (spCons (pOk pSGet fSGet (by decide) lsNil) (spCons (pOk pSGetR fSGetR (by decide) lsNil) (spCons (pOk pSSame fSSame (by decide) lsNil) (spCons (pOk pSSameR fSSameR (by decide) lsNil) spNil)))))))) (by kernel_rfl) Try.func8 (by kernel_rfl) (by decide) fun xs hg hp => ?_
  obtain ⟨⟨key, xs⟩, ⟨key2, ys⟩, b, ⟨⟩⟩ := xs
  obtain ⟨-, -, ⟨hl, -⟩, -⟩ := hg
  change List UInt8 at key key2
  change List Ver at xs ys
  change List Int at b
  change b.length ≤ _ at hl
  have hl := len63 hl
  clear hp
  show vfun tab _ k8 Try.f8 [.agg [.s key, .sl VerT xs], .agg [.s key2, .sl VerT ys], .sl (.int .u8) b] [] _
  refine Ev.out ?_
  repeat' (first | ((with_reducible refine Ev.mk ?_); conv => whnf) | (with_reducible refine And.intro ?_ ?_) | (intro h))
  all_goals (try simp only [decide_eq_true_eq, decide_eq_false_iff_not, beq_iff_eq, bne_iff_ne, beq_eq_false_iff_ne, bne_eq_false_iff_eq, Int.toNat_natCast, ge_iff_le, gt_iff_lt, Bool.not_eq_true', Bool.not_eq_false', Int.not_lt, Int.not_le, ne_eq] at *)
  all_goals (try dsimp only [Ty.den, Ty.dflt, VerT, sLight] at *)
  all_goals (try simp only [eq4, ne4, eq3, ne3, eq2, ne2, Prod.eta, List.length_cons, List.length_nil, List.length_append, Nat.zero_add] at *)
  all_goals (try simp (disch := omega) only [wrap64] at *)
  all_goals try first | exact leafDraw (by kernel_rfl) | exact Leaf.mk trivial | (refine Leaf.mk ?_; omega) | (refine Leaf.mk ?_; unfold maxLen; omega)
  all_goals try exact Leaf.mk rfl
  all_goals first
    | exact Leaf.mk (show b.length ≤ 100000 by omega)
    | exact absurd rfl h
    | exact absurd ((show sameS (getS b).1 (getS b).1 = true from decide_eq_true rfl).symm.trans ‹(sSSameR.fn ((sSGet.fn (b, ())).1.1, (sSGetR.fn (b, ())).1.1, ())).1.1 = false›) (by simp)
end Go.Proofs.Ytlfehkoklgmjjaa
