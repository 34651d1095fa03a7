import Derived.Test.YtoedpnniaikfbaaF6



set_option linter.unusedVariables false
set_option linter.unusedSimpArgs false
set_option maxRecDepth 8000
set_option maxHeartbeats 4000000
namespace Go.Proofs.Ytoedpnniaikfbaa
open Go.Eng
def abort (s : Stk) (me : Int) : Stk := (s.1, s.2.filter (fun v => !roomP me v))
theorem fAbort1 : FnOk Try.prog 118 := ⟨_, Try.func118, by decide, rfl⟩
noncomputable def iAbort1 : Eng.Spec := inl tab (spOf []) k118 Try.f118
theorem pAbort1 : SpecOk Try.prog 118 iAbort1 := inl_ok tabOk spNil (by kernel_rfl) Try.func118 (by kernel_rfl)
theorem fWithoutA : FnOk Try.prog 117 := ⟨_, Try.func117, by decide, rfl⟩
noncomputable def iWithoutA : Eng.Spec := inl tab (spOf [(118, iAbort1)]) k117 Try.f117
theorem pWithoutA : SpecOk Try.prog 117 iWithoutA := inl_ok tabOk (spCons (.inl ⟨pAbort1, fAbort1⟩) spNil) (by kernel_rfl) Try.func117 (by kernel_rfl)
def sAbort : PSpec := ⟨[.d StT, .d (.int .i64)], [⟨true, [.d .str, .o 93 VerT]⟩], fun x => List.length x.1.2 ≤ 100000, fun x => (((abort x.1 x.2.1).1, ((abort x.1 x.2.1).2, ())), ())⟩
theorem fAbort : FnOk Try.prog 60 := ⟨_, Try.func60, by decide, rfl⟩
theorem pAbort : PSound Try.prog 60 sAbort := by
  refine psound (T := tab) (S := (spOf [(117, iWithoutA)])) (keep := k60) (by kernel_rfl) tabOk (spCons (.inl ⟨pWithoutA, fWithoutA⟩) spNil) (by kernel_rfl) Try.func60 (by kernel_rfl) (by decide) fun xs hg hp => ?_
  obtain ⟨⟨key, xs⟩, me, ⟨⟩⟩ := xs
  change List UInt8 at key
  change List Ver at xs
  change Int at me
  change xs.length ≤ 100000 at hp
  show vfun tab _ k60 Try.f60 [.agg [.s key, .sl VerT xs], .i .i64 me] [] _
  refine Ev.out ?_
  repeat' (first | ((with_reducible refine Ev.mk ?_); conv => whnf) | (with_reducible refine And.intro ?_ ?_) | (intro h))
  all_goals (try simp only [decide_eq_true_eq, decide_eq_false_iff_not, beq_iff_eq, bne_iff_ne, beq_eq_false_iff_ne, bne_eq_false_iff_eq, Int.toNat_natCast, ge_iff_le, gt_iff_lt, Bool.not_eq_true', Bool.not_eq_false', Int.not_lt, Int.not_le, ne_eq] at *)
  all_goals (try dsimp only [Ty.den, Ty.dflt, VerT] at *)
  all_goals (try simp only [eq4, ne4, eq3, ne3, eq2, ne2, Prod.eta, List.length_cons, List.length_nil, List.length_append, Nat.zero_add] at *)
  all_goals (try simp (disch := omega) only [wrap64] at *)
  all_goals try first | exact leafDraw (by kernel_rfl) | exact Leaf.mk trivial | (refine Leaf.mk ?_; omega) | (refine Leaf.mk ?_; unfold maxLen; omega)
  refine LoopVC.weak [(.slot 5, .nil 93 VerT)] (fun i : Nat => [(10, .i .i64 i)]) (fun i => [(27, .arr 93 VerT ((xs.take i).filter (fun v => !roomP me v)))]) (fun i => i ≤ xs.length) (fun i => xs.length - i) 0 (Ev.mk ?_)
  (conv => whnf)
  refine ⟨Leaf.mk rfl, Leaf.mk ?_, ?_⟩
  · omega
  intro i hi
  have hk := length_filter_take (xs := xs) (i := i) (p := fun v => !roomP me v)
  repeat' (first | ((with_reducible refine Ev.mk ?_); conv => whnf) | (with_reducible refine And.intro ?_ ?_) | (intro h))
  all_goals (try simp only [decide_eq_true_eq, decide_eq_false_iff_not, beq_iff_eq, bne_iff_ne, beq_eq_false_iff_ne, bne_eq_false_iff_eq, Int.toNat_natCast, ge_iff_le, gt_iff_lt, Bool.not_eq_true', Bool.not_eq_false', Int.not_lt, Int.not_le, ne_eq] at *)
  all_goals (try dsimp only [Ty.den, Ty.dflt, VerT] at *)
  all_goals (try simp only [eq4, ne4, eq3, ne3, eq2, ne2, Prod.eta, List.length_cons, List.length_nil, List.length_append, Nat.zero_add] at *)
  all_goals (try simp (disch := omega) only [wrap64] at *)
  all_goals try first | exact leafDraw (by kernel_rfl) | exact Leaf.mk trivial | (refine Leaf.mk ?_; omega) | (refine Leaf.mk ?_; unfold maxLen; omega)
  all_goals have hk := length_filter_take (xs := xs) (i := i) (p := fun v => !roomP me v)
  all_goals first
    | exact Leaf.mk (show (((xs.take i).filter (fun v => !roomP me v)).length + 1) * 40 ≤ 140737488355328 by omega)
    | exact Leaf.mk (show ((xs.take i).filter (fun v => !roomP me v)).length + 1 ≤ maxLen by unfold maxLen; omega)
    | (have hil : i = xs.length := by omega
       subst hil
       refine Leaf.mk (retS (s := abort (key, xs) me) ?_)
       rw [abort, List.take_length])
    | (refine Leaf.mk ⟨i + 1, ?_, by omega, by omega⟩
       rw [filter_at ver0 (by omega)]
       first
       | (rw [if_pos (show (!roomP me (xs.getD i ver0)) = true from ?_)]
          · rfl
          · rw [Bool.not_eq_true', ← Bool.not_eq_true]
            intro hc
            simp only [roomP, ver0, Bool.and_eq_true, beq_iff_eq] at hc
            first | exact h hc.1 | exact h hc.2)
       | (rw [if_neg (show ¬ (!roomP me (xs.getD i ver0)) = true from ?_), List.append_nil]
          · rfl
          · rw [Bool.not_eq_true', Bool.not_eq_false]
            simp only [roomP, ver0, Bool.and_eq_true, beq_iff_eq]
            exact ⟨‹_›, ‹_›⟩))
def sAwake11 : PSpec := ⟨[], [⟨false, [.d .bool]⟩], fun _ => True, fun _ => ((true, ()), ())⟩
def sStackPuts : PSpec := lawSpec [StT, StT, BT]
theorem light_of {s : Stk} (h : light s = true) : s.1.length ≤ 100 ∧ s.2.length ≤ 12 := by
  unfold light at h
  rw [Bool.and_eq_true, Bool.and_eq_true] at h
  exact ⟨of_decide_eq_true h.1, of_decide_eq_true h.2.1⟩
end Go.Proofs.Ytoedpnniaikfbaa
