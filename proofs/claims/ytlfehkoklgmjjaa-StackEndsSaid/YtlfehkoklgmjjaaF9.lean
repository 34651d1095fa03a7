import Derived.Test.YtlfehkoklgmjjaaF8

set_option linter.unusedVariables false
set_option linter.unusedSimpArgs false
set_option maxRecDepth 8000
set_option maxHeartbeats 4000000
namespace Go.Proofs.Ytlfehkoklgmjjaa
open Go.Eng
abbrev AskT : Ty := .pair (.int .u8) (.pair VerT (.int .i64))
abbrev Ask := Int × (Int × Int × Bool × List UInt8) × Int
def doS (s : Stk) (a : Ask) : Stk := if a.1 % 4 = 1 then commit s a.2.1.1 a.2.2 else if a.1 % 4 = 2 then abort s a.2.1.1 else if a.1 % 4 = 3 then prune s a.2.2 else write s a.2.1
def sDo : PSpec := ⟨[.d StT, .d AskT], [⟨true, [.d StT]⟩], fun x => List.length x.1.2 ≤ 100000, fun x => ((doS x.1 x.2.1, ()), ())⟩
theorem mod4 {k : Int} (h : 0 ≤ k ∧ k ≤ 255) : k.tmod 4 = k % 4 := Int.tmod_eq_emod_of_nonneg h.1
theorem fDo : FnOk Try.prog 55 := ⟨_, Try.func55, by decide, rfl⟩
theorem pDo : PSound Try.prog 55 sDo := by
  refine psound (T := tab) (S := (spOf [(58, sCommit.spec (lsOf [])), (59, sAbort.spec (lsOf [])), (117, sPrune.spec (lsOf [])), (57, sWrite.spec (lsOf []))])) (keep := k55) (by kernel_rfl) tabOk (spCons (pOk pCommit fCommit (by decide) lsNil) (spCons (pOk pAbort fAbort (by decide) lsNil) (spCons (pOk pPrune fPrune (by decide) lsNil) (spCons (pOk pWrite fWrite (by decide) lsNil) spNil)))) (by kernel_rfl) Try.func55 (by kernel_rfl) (by decide) fun xs hg hp => ?_
  obtain ⟨⟨key, xs⟩, ⟨kind, ⟨txn, vts, gone, val⟩, ts⟩, ⟨⟩⟩ := xs
  obtain ⟨-, ⟨hk, -⟩, -⟩ := hg
  change List UInt8 at key
  change List Ver at xs
  change Int at kind txn vts ts
  change Bool at gone
  change List UInt8 at val
  change xs.length ≤ 100000 at hp
  have hk := bdu8 hk
  have hm := mod4 hk
  show vfun tab _ k55 Try.f55 [.agg [.s key, .sl VerT xs], .agg [.i .u8 kind, .i .i64 txn, .i .i64 vts, .b gone, .s val, .i .i64 ts]] [] _
  refine Ev.out ?_
  repeat' (first | ((with_reducible refine Ev.mk ?_); conv => whnf) | (with_reducible refine And.intro ?_ ?_) | (intro h))
  all_goals (try simp only [decide_eq_true_eq, decide_eq_false_iff_not, beq_iff_eq, bne_iff_ne, beq_eq_false_iff_ne, bne_eq_false_iff_eq, Int.toNat_natCast, ge_iff_le, gt_iff_lt, Bool.not_eq_true', Bool.not_eq_false', Int.not_lt, Int.not_le, ne_eq] at *)
  all_goals (try dsimp only [Ty.den, Ty.dflt, VerT] at *)
  all_goals (try simp only [eq4, ne4, eq3, ne3, eq2, ne2, Prod.eta, List.length_cons, List.length_nil, List.length_append, Nat.zero_add] at *)
  all_goals (try simp (disch := omega) only [wrap64] at *)
  all_goals try first | exact leafDraw (by kernel_rfl) | exact Leaf.mk trivial | (refine Leaf.mk ?_; omega) | (refine Leaf.mk ?_; unfold maxLen; omega)
  · refine Leaf.mk (show inK .u8 (kind.tmod 4) = true from ?_)
    rw [hm]; simp only [inK, Bool.and_eq_true, decide_eq_true_eq]; omega
  · exact Leaf.mk (show xs.length ≤ 100000 from hp)
  · refine Leaf.mk (ret1 (show ((commit (key, xs) txn ts).1, (commit (key, xs) txn ts).2) = doS (key, xs) (kind, (txn, vts, gone, val), ts) from ?_))
    unfold doS; rw [if_pos (show kind % 4 = 1 by rw [← hm]; assumption)]
  · exact Leaf.mk (show xs.length ≤ 100000 from hp)
  · refine Leaf.mk (ret1 (show ((abort (key, xs) txn).1, (abort (key, xs) txn).2) = doS (key, xs) (kind, (txn, vts, gone, val), ts) from ?_))
    unfold doS; rw [if_neg (show ¬ kind % 4 = 1 by rw [← hm]; assumption), if_pos (show kind % 4 = 2 by rw [← hm]; assumption)]
  · exact Leaf.mk (show xs.length ≤ 100000 from hp)
  · refine Leaf.mk (ret1 (show ((prune (key, xs) ts).1, (prune (key, xs) ts).2) = doS (key, xs) (kind, (txn, vts, gone, val), ts) from ?_))
    unfold doS; rw [if_neg (show ¬ kind % 4 = 1 by rw [← hm]; assumption), if_neg (show ¬ kind % 4 = 2 by rw [← hm]; assumption), if_pos (show kind % 4 = 3 by rw [← hm]; assumption)]
  · exact Leaf.mk (show xs.length ≤ 100000 from hp)
  · refine Leaf.mk (ret1 (show ((write (key, xs) (txn, vts, gone, val)).1, (write (key, xs) (txn, vts, gone, val)).2) = doS (key, xs) (kind, (txn, vts, gone, val), ts) from ?_))
    unfold doS; rw [if_neg (show ¬ kind % 4 = 1 by rw [← hm]; assumption), if_neg (show ¬ kind % 4 = 2 by rw [← hm]; assumption), if_neg (show ¬ kind % 4 = 3 by rw [← hm]; assumption)]
def mayA (a : Ask) : Bool := decide (a.2.1.2.2.2.length ≤ 24 ∧ (a.2.1.2.2.1 = true → a.2.1.2.2.2 = []) ∧ (0 ≤ a.2.1.1 ∧ a.2.1.1 ≤ 1099511627776) ∧ (0 ≤ a.2.2 ∧ a.2.2 ≤ 1099511627776))
def sMay : PSpec := ⟨[.d AskT], [⟨false, [.d .bool]⟩], fun _ => True, fun x => ((mayA x.1, ()), ())⟩
theorem fMay : FnOk Try.prog 54 := ⟨_, Try.func54, by decide, rfl⟩
theorem pMay : PSound Try.prog 54 sMay := by
  refine psound (T := tab) (S := (spOf [])) (keep := k54) (by kernel_rfl) tabOk spNil (by kernel_rfl) Try.func54 (by kernel_rfl) (by decide) fun xs hg hp => ?_
  obtain ⟨⟨kind, ⟨txn, vts, gone, val⟩, ts⟩, ⟨⟩⟩ := xs
  obtain ⟨⟨hk, ⟨-, -, -, hv⟩, -⟩, -⟩ := hg
  change Int at kind txn vts ts
  change Bool at gone
  change List UInt8 at val
  change val.length ≤ _ at hv
  have hv := len63 hv
  clear hp
  show vfun tab _ k54 Try.f54 [.agg [.i .u8 kind, .i .i64 txn, .i .i64 vts, .b gone, .s val, .i .i64 ts]] [] _
  refine Ev.out ?_
  repeat' (first | ((with_reducible refine Ev.mk ?_); conv => whnf) | (with_reducible refine And.intro ?_ ?_) | (intro h))
  all_goals (try simp only [decide_eq_true_eq, decide_eq_false_iff_not, beq_iff_eq, bne_iff_ne, beq_eq_false_iff_ne, bne_eq_false_iff_eq, Int.toNat_natCast, ge_iff_le, gt_iff_lt, Bool.not_eq_true', Bool.not_eq_false', Int.not_lt, Int.not_le, ne_eq] at *)
  all_goals (try dsimp only [Ty.den, Ty.dflt, VerT] at *)
  all_goals (try simp only [eq4, ne4, eq3, ne3, eq2, ne2, Prod.eta, List.length_cons, List.length_nil, List.length_append, Nat.zero_add] at *)
  all_goals (try simp (disch := omega) only [wrap64] at *)
  all_goals try first | exact leafDraw (by kernel_rfl) | exact Leaf.mk trivial | (refine Leaf.mk ?_; omega) | (refine Leaf.mk ?_; unfold maxLen; omega)
  all_goals
    refine Leaf.mk (ret1 (show _ = mayA (kind, (txn, vts, gone, val), ts) from ?_))
    unfold mayA
    dsimp only
    first
    | (rw [Bool.eq_iff_iff, decide_eq_true_iff, decide_eq_true_iff]
       constructor
       · intro h; exact ⟨by omega, fun hg => by first | assumption | (exfalso; rw [‹gone = false›] at hg; cases hg), ⟨by omega, by omega⟩, by omega, h⟩
       · rintro ⟨_, _, _, h⟩; exact h.2)
    | (rw [eq_comm, decide_eq_false_iff_not]
       rintro ⟨k1, k2, k3, k4⟩
       first | omega | exact absurd (k2 ‹_›) ‹_›)
theorem do_ok {s : Stk} {a : Ask} (h : check s = 0) (ha : mayA a = true) : check (doS s a) = 0 := by
  obtain ⟨h1, h2, h3, h4⟩ := of_decide_eq_true ha
  unfold doS
  split
  · exact commit_ok h h4.2
  split
  · exact abort_ok h
  split
  · exact prune_ok h
  · exact write_ok h ⟨h1, h2, h3, by dsimp only; omega⟩
end Go.Proofs.Ytlfehkoklgmjjaa
