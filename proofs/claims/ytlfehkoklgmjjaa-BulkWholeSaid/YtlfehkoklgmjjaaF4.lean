import Derived.Test.YtlfehkoklgmjjaaF3


set_option linter.unusedVariables false
set_option linter.unusedSimpArgs false
set_option maxRecDepth 8000
set_option maxHeartbeats 4000000
namespace Go.Proofs.Ytlfehkoklgmjjaa
open Go.Eng
theorem wrapu {n : Int} (h : 0 ≤ n ∧ n ≤ 1099511627776) : IntKind.u64.wrap n = n := by rw [wrapU64]; omega
def putR11 (s : Stk) : List Int × Int := if check s = 0 then (putS s, 0) else ([], check s)
def sSPut : PSpec := ⟨[.d StT], [⟨false, [.d BT]⟩, ⟨false, [.d (.int .i64)]⟩], fun _ => True, fun x => (((putR11 x.1).1, ()), ((putR11 x.1).2, ()), ())⟩
theorem retB {u v : List Int × Int} (h : u = v) : (some ((u.1, ()), (u.2, ()), ()) : Option ((List Int × Unit) × (Int × Unit) × Unit)) = some ((v.1, ()), (v.2, ()), ()) := by rw [h]
theorem fSPut : FnOk Try.prog 47 := ⟨_, Try.func47, by decide, rfl⟩
theorem pSPut : PSound Try.prog 47 sSPut := by
  refine psound (T := tab) (S := (spOf [(53, sCheck.spec (lsOf [])), (95, sPutText.spec (lsOf [])), (94, sPutSmall.spec (lsOf [])), (119, sFlag.spec (lsOf [])), (118, sConcatB.spec (lsOf []))])) (keep := k47) (by kernel_rfl) tabOk (spCons (pOk pCheck fCheck (by decide) lsNil) (spCons (pOk pPutText fPutText (by decide) lsNil) (spCons (pOk pPutSmall fPutSmall (by decide) lsNil) (spCons (pOk pFlag fFlag (by decide) lsNil) (spCons (pOk pConcatB fConcatB (by decide) lsNil) spNil))))) (by kernel_rfl) Try.func47 (by kernel_rfl) (by decide) fun xs hg hp => ?_
  obtain ⟨⟨key, xs⟩, ⟨⟩⟩ := xs
  change List UInt8 at key
  change List Ver at xs
  clear hp hg
  show vfun tab _ k47 Try.f47 [.agg [.s key, .sl VerT xs]] [] _
  refine Ev.out ?_
  repeat' (first | ((with_reducible refine Ev.mk ?_); conv => whnf) | (with_reducible refine And.intro ?_ ?_) | (intro h))
  all_goals (try simp only [decide_eq_true_eq, decide_eq_false_iff_not, beq_iff_eq, bne_iff_ne, beq_eq_false_iff_ne, bne_eq_false_iff_eq, Int.toNat_natCast, ge_iff_le, gt_iff_lt, Bool.not_eq_true', Bool.not_eq_false', Int.not_lt, Int.not_le, ne_eq] at *)
  all_goals (try dsimp only [Ty.den, Ty.dflt, VerT, sCheck, sPutText, sPutSmall] at *)
  all_goals (try simp only [eq4, ne4, eq3, ne3, eq2, ne2, Prod.eta, List.length_cons, List.length_nil, List.length_append, Nat.zero_add] at *)
  all_goals (try simp (disch := omega) only [wrap64] at *)
  all_goals try first | exact leafDraw (by kernel_rfl) | exact Leaf.mk trivial | (refine Leaf.mk ?_; omega) | (refine Leaf.mk ?_; unfold maxLen; omega)
  · exact Leaf.mk (retB (u := ([], check (key, xs))) (if_neg h).symm)
  all_goals
    have ok := check_ok.1 ‹check (key, xs) = 0›
    have hk := ok.key
    have hl := ok.len
    dsimp only at hk hl
    have h1 := putText_len key
    have h2 := putSmall_len xs.length
  · exact Leaf.mk (show key.length ≤ 100000 by omega)
  all_goals rw [wrapu (by omega)]
  · exact Leaf.mk (by omega)
  · exact Leaf.mk (by unfold maxLen; omega)
  have hS : putR11 (key, xs) = (putS (key, xs), 0) := if_pos ‹check (key, xs) = 0›
  have hva : ∀ i, i < xs.length → VerOk (xs.getD i ver0) := fun i hi => ok.all _ (getD_mem ver0 hi)
  refine LoopVC.weak [(.slot 5, .frz)] (fun i : Nat => [(5, .sl (.int .u8) (putText key ++ putSmall xs.length ++ (xs.take i).flatMap putV)), (25, .i .i64 i)]) (fun _ => []) (fun i => i ≤ xs.length) (fun i => xs.length - i) 0 (Ev.mk ?_)
  (conv => whnf)
  refine ⟨Leaf.mk ?_, Leaf.mk ?_, ?_⟩
  · simp only [List.take_zero, List.flatMap_nil, List.append_nil]; rfl
  · omega
  intro i hi
  have hfl := flat_len putV 69 (xs.take i) (fun v hv => putV_len (ok.all v (List.mem_of_mem_take hv)))
  have htl : (xs.take i).length * 69 ≤ 552 := by rw [List.length_take]; omega
  repeat' (first | ((with_reducible refine Ev.mk ?_); conv => whnf) | (with_reducible refine And.intro ?_ ?_) | (intro h))
  all_goals (try simp only [decide_eq_true_eq, decide_eq_false_iff_not, beq_iff_eq, bne_iff_ne, beq_eq_false_iff_ne, bne_eq_false_iff_eq, Int.toNat_natCast, ge_iff_le, gt_iff_lt, Bool.not_eq_true', Bool.not_eq_false', Int.not_lt, Int.not_le, ne_eq] at *)
  all_goals (try dsimp only [Ty.den, Ty.dflt, VerT, sPutText, sPutSmall, sFlag] at *)
  all_goals (try simp only [eq4, ne4, eq3, ne3, eq2, ne2, Prod.eta, List.length_cons, List.length_nil, List.length_append, Nat.zero_add] at *)
  all_goals (try simp (disch := omega) only [wrap64] at *)
  all_goals try first | exact leafDraw (by kernel_rfl) | exact Leaf.mk trivial | (refine Leaf.mk ?_; omega) | (refine Leaf.mk ?_; unfold maxLen; omega)
  · exact Leaf.mk (show (xs.getD i ver0).2.2.2.length ≤ 100000 by have := (hva i (by omega)).val; omega)
  · have hv := hva i (by omega)
    have hvl := putV_len hv
    have h3 := flat_len putV 69 (xs.take i) (fun v hv => putV_len (ok.all v (List.mem_of_mem_take hv)))
    rw [wrapu (n := (xs.getD i ver0).1) hv.txn, wrapu (n := (xs.getD i ver0).2.1) hv.ts]
    refine Leaf.mk (show 5 ≤ 1000 ∧ (List.flatten (α := Int) _).length ≤ 1000000 from ⟨by omega, ?_⟩)
    simp only [putV, List.length_append, List.length_cons] at hvl
    dsimp only [ver0] at hvl ⊢
    simp only [List.flatten_cons, List.flatten_nil, List.length_append, List.length_cons, List.length_nil]
    omega
  · have hv := hva i (by omega)
    rw [wrapu (n := (xs.getD i ver0).1) hv.txn, wrapu (n := (xs.getD i ver0).2.1) hv.ts]
    refine Leaf.mk ⟨i + 1, ?_, by omega, by omega⟩
    rw [flatMap_at ver0 (by omega)]
    have e : (sConcatB.fn ([putText key ++ putSmall xs.length ++ (xs.take i).flatMap putV, putSmall (xs.getD i ver0).1, putSmall (xs.getD i ver0).2.1, [if (xs.getD i ver0).2.2.1 = true then 1 else 0], putText (xs.getD i ver0).2.2.2], ())).1.1 = putText key ++ putSmall xs.length ++ ((xs.take i).flatMap putV ++ putV (xs.getD i ver0)) := by
      show List.flatten _ = _
      simp [putV]
    exact congrArg (fun l => (⟨[(5, V.sl (.int .u8) l), (23, V.sl VerT xs), (24, V.i .i64 (xs.length : Int)), (25, V.i .i64 ((i : Int) + 1))], []⟩ : St)) e
  · rw [List.take_of_length_le (by omega)]
    refine Leaf.mk (retB (u := (putText key ++ putSmall xs.length ++ xs.flatMap putV, 0)) ?_)
    show _ = putR11 (key, xs)
    rw [hS, putS, List.append_assoc]
end Go.Proofs.Ytlfehkoklgmjjaa
