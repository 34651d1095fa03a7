import Derived.Test.YtkmfjlfejdoehaaGreatQ8
import Derived.Test.YtkmfjlfejdoehaaGreatEng4
import Derived.Test.YtkmfjlfejdoehaaGreatEng5
import Derived.Shelf.Sort.Plain
import Derived.Test.YtkmfjlfejdoehaaGreatProg
import Derived.Test.YtkmfjlfejdoehaaGreatTab
/- Texts, one behind the other. -/
set_option linter.unusedVariables false
set_option linter.unusedSimpArgs false
set_option maxRecDepth 8000
set_option maxHeartbeats 4000000
namespace Go.Proofs.YtkmfjlfejdoehaaGreat
open Go.Eng
abbrev stk0 : Stk := ([], [])
def emptyS (s : Stk) : Bool := ((s.2.length : Nat) : Int) == 0
def sIndexFuncT : PSpec := ⟨[.d (.slice StT), .lam StT .bool], [⟨false, [.d (.int .i64)]⟩], fun _ => True, fun x => ((idxF x.2.1 x.1 0, ()), ())⟩
theorem fIndexFuncT : FnOk Tryz.prog 148 := ⟨_, Tryz.func148, by decide, rfl⟩
theorem pIndexFuncT : PSound Tryz.prog 148 sIndexFuncT := by
  refine psound (T := tab) (S := (spOf [])) (keep := k148) (by kernel_rfl) tabOk spNil (by kernel_rfl) Tryz.func148 (by kernel_rfl) (by decide) fun xs hg hp => ?_
  obtain ⟨xs, p, ⟨⟩⟩ := xs
  obtain ⟨⟨hl, -⟩, -⟩ := hg
  change List Stk at xs
  change Stk → Bool at p
  have hl := len63 hl
  clear hp
  show vfun tab _ k148 Tryz.f148 [.sl StT xs, .lam StT .bool p] [] _
  refine Ev.out ?_
  repeat' (first | ((with_reducible refine Ev.mk ?_); conv => whnf) | (with_reducible refine And.intro ?_ ?_) | (intro h))
  refine LoopVC.on (fun i : Nat => [(8, .i .i64 i)]) (fun _ => []) (fun i => i ≤ xs.length ∧ idxF p xs 0 = idxF p (xs.drop i) i) (fun i => xs.length - i) 0 rfl ⟨by omega, by simp⟩ ?_
  intro i ⟨hi, he⟩
  repeat' (first | ((with_reducible refine Ev.mk ?_); conv => whnf) | (with_reducible refine And.intro ?_ ?_) | (intro h))
  all_goals (try simp only [decide_eq_true_eq, decide_eq_false_iff_not, beq_iff_eq, bne_iff_ne, beq_eq_false_iff_ne, bne_eq_false_iff_eq, Int.toNat_natCast, ge_iff_le, gt_iff_lt, Bool.not_eq_true', Bool.not_eq_false', Int.not_lt, Int.not_le, ne_eq] at *)
  all_goals (try dsimp only [Ty.den, Ty.dflt, StT] at *)
  all_goals (try simp only [eq4, ne4, eq3, ne3, eq2, ne2, Prod.eta, List.length_cons, List.length_nil, List.length_append, Nat.zero_add] at *)
  all_goals (try simp (disch := omega) only [wrap64] at *)
  all_goals try first | exact leafDraw (by kernel_rfl) | exact Leaf.mk trivial | (refine Leaf.mk ?_; omega) | (refine Leaf.mk ?_; unfold maxLen; omega)
  all_goals first
    | (rw [drop_end (by omega)] at he; exact Leaf.mk (ret1 he.symm))
    | (rw [drop_at stk0 (by omega), idxF, if_pos (by assumption)] at he; exact Leaf.mk (ret1 he.symm))
    | (rw [drop_at stk0 (by omega), idxF, if_neg (by simp_all)] at he; exact Leaf.mk ⟨i + 1, rfl, ⟨by omega, he⟩, by omega⟩)
def sContainsFuncT : PSpec := ⟨[.d (.slice StT), .lam StT .bool], [⟨false, [.d .bool]⟩], fun _ => True, fun x => ((List.any x.1 x.2.1, ()), ())⟩
theorem fContainsFuncT : FnOk Tryz.prog 85 := ⟨_, Tryz.func85, by decide, rfl⟩
theorem pContainsFuncT : PSound Tryz.prog 85 sContainsFuncT := by
  refine psound (T := tab) (S := (spOf [(148, sIndexFuncT.spec (lsOf []))])) (keep := k85) (by kernel_rfl) tabOk (spCons (pOk pIndexFuncT fIndexFuncT (by decide) lsNil) spNil) (by kernel_rfl) Tryz.func85 (by kernel_rfl) (by decide) fun xs hg hp => ?_
  obtain ⟨xs, p, ⟨⟩⟩ := xs
  change List Stk at xs
  change Stk → Bool at p
  show vfun tab _ k85 Tryz.f85 [.sl StT xs, .lam StT .bool p] [] _
  refine Ev.out ?_
  repeat' (first | ((with_reducible refine Ev.mk ?_); conv => whnf) | (with_reducible refine And.intro ?_ ?_) | (intro h))
  · exact Leaf.mk trivial
  · exact Leaf.mk (ret1 (idxF_any xs 0))
def sCloneT : PSpec := ⟨[.d (.slice StT)], [⟨false, [.o 38 StT]⟩], fun x => x.1.length ≤ 1000000, fun x => ((x.1, ()), ())⟩
theorem fCloneT : FnOk Tryz.prog 92 := ⟨_, Tryz.func92, by decide, rfl⟩
theorem pCloneT : PSound Tryz.prog 92 sCloneT := by
  refine psound (T := tab) (S := (spOf [])) (keep := k92) (by kernel_rfl) tabOk spNil (by kernel_rfl) Tryz.func92 (by kernel_rfl) (by decide) fun xs hg hp => ?_
  obtain ⟨xs, ⟨⟩⟩ := xs
  obtain ⟨⟨hl, -⟩, -⟩ := hg
  change List Stk at xs
  clear hl
  change xs.length ≤ 1000000 at hp
  show vfun tab _ k92 Tryz.f92 [.sl StT xs] [] _
  refine Ev.out ?_
  repeat' (first | ((with_reducible refine Ev.mk ?_); conv => whnf) | (with_reducible refine And.intro ?_ ?_) | (intro h))
  all_goals (try simp only [decide_eq_true_eq, decide_eq_false_iff_not, beq_iff_eq, bne_iff_ne, beq_eq_false_iff_ne, bne_eq_false_iff_eq, Int.toNat_natCast, ge_iff_le, gt_iff_lt, Bool.not_eq_true', Bool.not_eq_false', Int.not_lt, Int.not_le, ne_eq] at *)
  all_goals (try dsimp only [Ty.den, Ty.dflt, StT] at *)
  all_goals (try simp only [eq4, ne4, eq3, ne3, eq2, ne2, Prod.eta, List.length_cons, List.length_nil, List.length_append, Nat.zero_add] at *)
  all_goals (try simp (disch := omega) only [wrap64] at *)
  all_goals try first | exact leafDraw (by kernel_rfl) | exact Leaf.mk trivial | (refine Leaf.mk ?_; omega) | (refine Leaf.mk ?_; unfold maxLen; omega)
  all_goals first
    | (refine Leaf.mk (ret1 (show ([] : List Stk) = xs from ?_)); exact (List.eq_nil_of_length_eq_zero (by omega)).symm)
    | exact Leaf.mk (ret1 rfl)
    | skip
def firstS : List Stk → Int
  | [] => 0
  | s :: r => if check s = 0 then firstS r else check s
def Up (l : List Stk) (n : Nat) : Prop := ∀ j, j < n → 1 ≤ j → (l.getD (j - 1) stk0).1 < (l.getD j stk0).1
instance (l : List Stk) (n : Nat) : Decidable (Up l n) := by unfold Up; infer_instance
def mayL (l : List Stk) : Int := if firstS l = 0 then (if l.any emptyS = true then 4 else if Up l l.length then 0 else 12) else firstS l
theorem firstS_at {xs : List Stk} {i : Nat} (h : i < xs.length) : firstS (xs.drop i) = if check (xs.getD i stk0) = 0 then firstS (xs.drop (i + 1)) else check (xs.getD i stk0) := by
  rw [drop_at stk0 h, firstS]
theorem up_step {l : List Stk} {i : Nat} (h : Up l i) (h1 : (l.getD (i - 1) stk0).1 < (l.getD i stk0).1) : Up l (i + 1) := fun j hj hj1 => by
  rcases Nat.lt_or_ge j i with hji | hji
  · exact h j hji hj1
  · obtain rfl : j = i := by omega
    exact h1
theorem up_not {l : List Stk} {i : Nat} (hi : 1 ≤ i) (hl : i < l.length) (h : sless (l.getD (i - 1) stk0).1 (l.getD i stk0).1 = false) : ¬ Up l l.length := fun hc => by
  have := sless_iff.2 (hc i hl hi)
  rw [h] at this; exact absurd this (by simp)
abbrev SsT : Ty := .slice StT
end Go.Proofs.YtkmfjlfejdoehaaGreat

set_option linter.unusedVariables false
set_option linter.unusedSimpArgs false
set_option maxRecDepth 8000
set_option maxHeartbeats 4000000
namespace Go.Proofs.YtkmfjlfejdoehaaGreat
open Go.Eng
set_option synthInstance.maxHeartbeats 400000
instance decVerI : DecidableEq Ver := inferInstanceAs (DecidableEq (Int × Int × Bool × List UInt8))
instance decStk : DecidableEq Stk := inferInstanceAs (DecidableEq (List UInt8 × List Ver))
def sameL (a b : List Stk) : Bool := decide (a = b)
def sSameAll : PSpec := ⟨[.d SsT, .d SsT], [⟨false, [.d .bool]⟩], fun _ => True, fun x => ((sameL x.1 x.2.1, ()), ())⟩
theorem fSameAll : FnOk Tryz.prog 14 := ⟨_, Tryz.func14, by decide, rfl⟩
theorem pSameAll : PSound Tryz.prog 14 sSameAll := by
  refine psound (T := tab) (S := (spOf [(21, sSSameR.spec (lsOf []))])) (keep := k14) (by kernel_rfl) tabOk (spCons (pOk pSSameR fSSameR (by decide) lsNil) spNil) (by kernel_rfl) Tryz.func14 (by kernel_rfl) (by decide) fun xs hg hp => ?_
  obtain ⟨xs, ys, ⟨⟩⟩ := xs
  obtain ⟨⟨hl, -⟩, ⟨hl2, -⟩, -⟩ := hg
  have hl := len63 hl
  have hl2 := len63 hl2
  change List Stk at xs ys
  change xs.length ≤ _ at hl
  change ys.length ≤ _ at hl2
  clear hp
  show vfun tab _ k14 Tryz.f14 [.sl StT xs, .sl StT ys] [] _
  refine Ev.out ?_
  repeat' (first | ((with_reducible refine Ev.mk ?_); conv => whnf) | (with_reducible refine And.intro ?_ ?_) | (intro h))
  all_goals (try simp only [decide_eq_true_eq, decide_eq_false_iff_not, beq_iff_eq, bne_iff_ne, beq_eq_false_iff_ne, bne_eq_false_iff_eq, Int.toNat_natCast, ge_iff_le, gt_iff_lt, Bool.not_eq_true', Bool.not_eq_false', Int.not_lt, Int.not_le, ne_eq] at *)
  all_goals (try dsimp only [Ty.den, Ty.dflt, StT] at *)
  all_goals (try simp only [eq4, ne4, eq3, ne3, eq2, ne2, Prod.eta, List.length_cons, List.length_nil, List.length_append, Nat.zero_add] at *)
  all_goals (try simp (disch := omega) only [wrap64] at *)
  · refine Leaf.mk (ret1 (show false = sameL xs ys from ?_))
    rw [sameL, eq_comm, decide_eq_false_iff_not]; intro hc; subst hc; omega
  refine LoopVC.on (fun i : Nat => [(5, .i .i64 i)]) (fun _ => []) (fun i => i ≤ xs.length ∧ xs.take i = ys.take i) (fun i => xs.length - i) 0 rfl ⟨by omega, by simp⟩ ?_
  intro i ⟨hi, he⟩
  repeat' (first | ((with_reducible refine Ev.mk ?_); conv => whnf) | (with_reducible refine And.intro ?_ ?_) | (intro h))
  all_goals (try simp only [decide_eq_true_eq, decide_eq_false_iff_not, beq_iff_eq, bne_iff_ne, beq_eq_false_iff_ne, bne_eq_false_iff_eq, Int.toNat_natCast, ge_iff_le, gt_iff_lt, Bool.not_eq_true', Bool.not_eq_false', Int.not_lt, Int.not_le, ne_eq] at *)
  all_goals (try dsimp only [Ty.den, Ty.dflt, StT, sSSameR, sSSame] at *)
  all_goals (try simp only [eq4, ne4, eq3, ne3, eq2, ne2, Prod.eta, List.length_cons, List.length_nil, List.length_append, Nat.zero_add] at *)
  all_goals (try simp (disch := omega) only [wrap64] at *)
  all_goals try first | exact leafDraw (by kernel_rfl) | exact Leaf.mk trivial | (refine Leaf.mk ?_; omega) | (refine Leaf.mk ?_; unfold maxLen; omega)
  all_goals first
    | exact Leaf.mk (ret1 (show false = sameL xs ys by rw [sameL, eq_comm, decide_eq_false_iff_not]; exact same_not stk0 (of_decide_eq_false (show decide (_ = _) = false from h))))
    | exact Leaf.mk ⟨i + 1, rfl, ⟨by omega, same_step stk0 (by omega) he (by omega) (of_decide_eq_true (show decide (_ = _) = true from h))⟩, by omega⟩
    | exact Leaf.mk (ret1 (show true = sameL xs ys by rw [sameL, eq_comm, decide_eq_true_eq]; exact same_end (by omega) he (by omega)))
end Go.Proofs.YtkmfjlfejdoehaaGreat

set_option linter.unusedVariables false
set_option linter.unusedSimpArgs false
set_option maxRecDepth 8000
set_option maxHeartbeats 4000000
namespace Go.Proofs.YtkmfjlfejdoehaaGreat
open Go.Eng
theorem sameL_self {a : List Stk} (h : sameL a a = false) {P : Prop} : P := absurd h (by rw [sameL, decide_eq_true rfl]; simp)
theorem lightL_len {l : List Stk} {m : Int} (h : lightL l m = true) : (l.length : Int) ≤ m := by
  unfold lightL at h
  rw [Bool.and_eq_true] at h
  exact of_decide_eq_true h.1
end Go.Proofs.YtkmfjlfejdoehaaGreat

set_option linter.unusedVariables false
set_option linter.unusedSimpArgs false
set_option maxRecDepth 8000
set_option maxHeartbeats 4000000
namespace Go.Proofs.YtkmfjlfejdoehaaGreat
open Go.Eng
theorem firstS_zero : ∀ {l : List Stk}, firstS l = 0 ↔ ∀ s ∈ l, check s = 0
  | [] => by simp [firstS]
  | s :: r => by
    rw [firstS, List.forall_mem_cons]
    split
    · rename_i h; rw [firstS_zero]; exact ⟨fun h2 => ⟨h, h2⟩, fun h2 => h2.2⟩
    · rename_i h; exact ⟨fun h2 => absurd h2 h, fun h2 => absurd h2.1 h⟩
theorem up_lt {l : List Stk} (h : Up l l.length) : ∀ (d i : Nat), i + d + 1 < l.length → (l.getD i stk0).1 < (l.getD (i + d + 1) stk0).1
  | 0, i, hi => by have := h (i + 1) (by omega) (by omega); rwa [Nat.add_sub_cancel] at this
  | d + 1, i, hi => by
    have h1 := up_lt h d i (by omega)
    have h2 := h (i + (d + 1) + 1) (by omega) (by omega)
    rw [Nat.add_sub_cancel] at h2
    exact slt_trans h1 h2
theorem up_pair {l : List Stk} : Up l l.length ↔ l.Pairwise (fun a b => a.1 < b.1) := by
  rw [List.pairwise_iff_getElem]
  have eg : ∀ i (hi : i < l.length), l.getD i stk0 = l[i] := fun i hi => by simp [List.getD, hi]
  constructor
  · intro h i j hi hj hij
    have := up_lt h (j - i - 1) i (by omega)
    rw [show i + (j - i - 1) + 1 = j by omega, eg i hi, eg j hj] at this
    exact this
  · intro h j hj hj1
    rw [eg _ (by omega), eg j hj]
    exact h (j - 1) j (by omega) hj (by omega)
theorem mayL_zero {l : List Stk} : mayL l = 0 ↔ (∀ s ∈ l, check s = 0) ∧ l.any emptyS = false ∧ l.Pairwise (fun a b => a.1 < b.1) := by
  rw [← firstS_zero, ← up_pair, mayL]
  split
  · rename_i h
    split
    · rename_i h2; simp [h, h2]
    · rename_i h2
      split <;> simp_all
  · rename_i h; simp [h]
end Go.Proofs.YtkmfjlfejdoehaaGreat

set_option linter.unusedVariables false
set_option linter.unusedSimpArgs false
set_option maxRecDepth 8000
set_option maxHeartbeats 4000000
namespace Go.Proofs.YtkmfjlfejdoehaaGreat
open Go.Eng
def lLCheck1 : LSpec := ⟨StT, .bool, [], fun v _ => emptyS v⟩
theorem fLCheck1 : FnOk Tryz.prog 86 := ⟨_, Tryz.func86, by decide, rfl⟩
theorem pLCheck1 : PSound Tryz.prog 86 lLCheck1.p := by
  refine psound (T := tab) (S := (spOf [])) (keep := k86) (by kernel_rfl) tabOk spNil (by kernel_rfl) Tryz.func86 (by kernel_rfl) (by decide) fun xs hg hp => ?_
  obtain ⟨⟨key, xs⟩, ⟨⟩⟩ := xs
  show vfun tab _ k86 Tryz.f86 [.agg [.s key, .sl VerT xs]] [] _
  refine Ev.out ?_
  repeat' (first | ((with_reducible refine Ev.mk ?_); conv => whnf) | (with_reducible refine And.intro ?_ ?_) | (intro h))
  exact Leaf.mk rfl
def checkL (l : List Stk) : Int := if mayL l = 0 then (if 1016 < sizeF l then 5 else 0) else mayL l
def sLSize : PSpec := ⟨[.st SsT], [⟨false, [.d (.int .i64)]⟩], fun x => List.length x.1 ≤ 100000, fun x => (((sizeF x.1 : Nat), ()), ())⟩
theorem fLSize : FnOk Tryz.prog 26 := ⟨_, Tryz.func26, by decide, rfl⟩
theorem pLSize : PSound Tryz.prog 26 sLSize := by
  refine psound (T := tab) (S := (spOf [(88, sLay14.spec (lsOf []))])) (keep := k26) (by kernel_rfl) tabOk (spCons (pOk pLay14 fLay14 (by decide) lsNil) spNil) (by kernel_rfl) Tryz.func26 (by kernel_rfl) (by decide) fun xs hg hp => ?_
  obtain ⟨xs, ⟨⟩⟩ := xs
  change List Stk at xs
  change xs.length ≤ 100000 at hp
  clear hg
  show vfun tab _ k26 Tryz.f26 [.agg [.sl StT xs]] [] _
  refine Ev.out ?_
  repeat' (first | ((with_reducible refine Ev.mk ?_); conv => whnf) | (with_reducible refine And.intro ?_ ?_) | (intro h))
  all_goals first | exact Leaf.mk hp | exact Leaf.mk rfl
def sLCheck : PSpec := ⟨[.st SsT], [⟨false, [.d (.int .i64)]⟩], fun x => List.length x.1 ≤ 100000, fun x => ((checkL x.1, ()), ())⟩
theorem fLCheck : FnOk Tryz.prog 24 := ⟨_, Tryz.func24, by decide, rfl⟩
theorem pLCheck : PSound Tryz.prog 24 sLCheck := by
  refine psound (T := tab) (S := (spOf [(84, sCheck.spec (lsOf [(86, lLCheck1)])), (85, sContainsFuncT.spec (lsOf [(86, lLCheck1)])), (26, sLSize.spec (lsOf [(86, lLCheck1)]))])) (keep := k24) (by kernel_rfl) tabOk (spCons (pOk pCheck fCheck (by decide) ((lsCons ⟨pLCheck1, fLCheck1⟩ lsNil))) (spCons (pOk pContainsFuncT fContainsFuncT (by decide) ((lsCons ⟨pLCheck1, fLCheck1⟩ lsNil))) (spCons (pOk pLSize fLSize (by decide) ((lsCons ⟨pLCheck1, fLCheck1⟩ lsNil))) spNil))) (by kernel_rfl) Tryz.func24 (by kernel_rfl) (by decide) fun xs hg hp => ?_
  obtain ⟨xs, ⟨⟩⟩ := xs
  change List Stk at xs
  change xs.length ≤ 100000 at hp
  clear hg
  show vfun tab _ k24 Tryz.f24 [.agg [.sl StT xs]] [] _
  refine Ev.out ?_
  repeat' (first | ((with_reducible refine Ev.mk ?_); conv => whnf) | (with_reducible refine And.intro ?_ ?_) | (intro h))
  all_goals (try simp only [decide_eq_true_eq, decide_eq_false_iff_not, beq_iff_eq, bne_iff_ne, beq_eq_false_iff_ne, bne_eq_false_iff_eq, Int.toNat_natCast, ge_iff_le, gt_iff_lt, Bool.not_eq_true', Bool.not_eq_false', Int.not_lt, Int.not_le, ne_eq] at *)
  all_goals (try dsimp only [Ty.den, Ty.dflt, StT] at *)
  all_goals (try simp only [eq4, ne4, eq3, ne3, eq2, ne2, Prod.eta, List.length_cons, List.length_nil, List.length_append, Nat.zero_add] at *)
  all_goals (try simp (disch := omega) only [wrap64] at *)
  all_goals try first | exact leafDraw (by kernel_rfl) | exact Leaf.mk trivial | (refine Leaf.mk ?_; omega) | (refine Leaf.mk ?_; unfold maxLen; omega)
  refine LoopVC.on (fun i : Nat => [(10, .i .i64 i)]) (fun _ => []) (fun i => i ≤ xs.length ∧ firstS xs = firstS (xs.drop i)) (fun i => xs.length - i) 0 rfl ⟨by omega, rfl⟩ ?_
  intro i ⟨hi, he⟩
  repeat' (first | ((with_reducible refine Ev.mk ?_); conv => whnf) | (with_reducible refine And.intro ?_ ?_) | (intro h))
  all_goals (try simp only [decide_eq_true_eq, decide_eq_false_iff_not, beq_iff_eq, bne_iff_ne, beq_eq_false_iff_ne, bne_eq_false_iff_eq, Int.toNat_natCast, ge_iff_le, gt_iff_lt, Bool.not_eq_true', Bool.not_eq_false', Int.not_lt, Int.not_le, ne_eq] at *)
  all_goals (try dsimp only [Ty.den, Ty.dflt, StT, sCheck] at *)
  all_goals (try simp only [eq4, ne4, eq3, ne3, eq2, ne2, Prod.eta, List.length_cons, List.length_nil, List.length_append, Nat.zero_add] at *)
  all_goals (try simp (disch := omega) only [wrap64] at *)
  all_goals try first | exact leafDraw (by kernel_rfl) | exact Leaf.mk trivial | (refine Leaf.mk ?_; omega) | (refine Leaf.mk ?_; unfold maxLen; omega)
  · rw [firstS_at (by omega), if_neg h] at he
    refine Leaf.mk (ret1 (show check (xs.getD i stk0) = checkL xs from ?_))
    have hm : mayL xs = check (xs.getD i stk0) := by rw [mayL, if_neg (by rw [he]; exact h), he]
    rw [checkL, if_neg (by rw [hm]; exact h), hm]
  · rw [firstS_at (by omega), if_pos h] at he
    exact Leaf.mk ⟨i + 1, rfl, ⟨by omega, he⟩, by omega⟩
  all_goals
    rw [drop_end (by omega)] at he
    have h0 : firstS xs = 0 := he
  · refine Leaf.mk (ret1 (show 4 = checkL xs from ?_))
    have hm : mayL xs = 4 := by rw [mayL, if_pos h0, if_pos]; assumption
    rw [checkL, if_neg (by rw [hm]; decide), hm]
  have hM : mayL xs = if Up xs xs.length then 0 else 12 := by
    rw [mayL, if_pos h0, if_neg]
    intro hc
    have h2 : xs.any emptyS = false := by assumption
    rw [hc] at h2; exact absurd h2 (by simp)
  refine LoopVC.on (fun i : Nat => [(6, .i .i64 i)]) (fun _ => []) (fun i => 1 ≤ i ∧ Up xs i) (fun i => xs.length - i) 1 rfl ⟨by omega, fun j hj hj1 => by omega⟩ ?_
  intro i ⟨hi, hu⟩
  repeat' (first | ((with_reducible refine Ev.mk ?_); conv => whnf) | (with_reducible refine And.intro ?_ ?_) | (intro h))
  all_goals (try simp only [decide_eq_true_eq, decide_eq_false_iff_not, beq_iff_eq, bne_iff_ne, beq_eq_false_iff_ne, bne_eq_false_iff_eq, Int.toNat_natCast, ge_iff_le, gt_iff_lt, Bool.not_eq_true', Bool.not_eq_false', Int.not_lt, Int.not_le, ne_eq] at *)
  all_goals (try dsimp only [Ty.den, Ty.dflt, StT, sLSize] at *)
  all_goals (try simp only [eq4, ne4, eq3, ne3, eq2, ne2, Prod.eta, List.length_cons, List.length_nil, List.length_append, Nat.zero_add] at *)
  all_goals (try simp (disch := omega) only [wrap64] at *)
  all_goals try first | exact leafDraw (by kernel_rfl) | exact Leaf.mk trivial | (refine Leaf.mk ?_; omega) | (refine Leaf.mk ?_; unfold maxLen; omega)
  all_goals try rw [show ((i : Int) - 1).toNat = i - 1 by omega] at h
  · refine Leaf.mk (ret1 (show 12 = checkL xs from ?_))
    have hm : mayL xs = 12 := by rw [hM, if_neg (up_not hi (by omega) h)]
    rw [checkL, if_neg (by rw [hm]; decide), hm]
  · exact Leaf.mk ⟨i + 1, rfl, ⟨by omega, up_step hu (sless_iff.1 h)⟩, by omega⟩
  all_goals
    have hm : mayL xs = 0 := by rw [hM, if_pos (show Up xs xs.length from fun j hj hj1 => hu j (by omega) hj1)]
  · refine Leaf.mk (ret1 (show 5 = checkL xs from ?_))
    rw [checkL, if_pos hm, if_pos (by omega)]
  · refine Leaf.mk (ret1 (show 0 = checkL xs from ?_))
    rw [checkL, if_pos hm, if_neg (by omega)]
end Go.Proofs.YtkmfjlfejdoehaaGreat

set_option linter.unusedVariables false
set_option linter.unusedSimpArgs false
set_option maxRecDepth 8000
set_option maxHeartbeats 4000000
namespace Go.Proofs.YtkmfjlfejdoehaaGreat
open Go.Eng
def cstep {α : Type} [DecidableEq α] (acc : List α) (x : α) : List α := if acc.getLast? = some x then acc else acc ++ [x]
def compL {α : Type} [DecidableEq α] (l : List α) : List α := l.foldl cstep []
section
variable {α : Type} [DecidableEq α]
theorem compL_snoc (l : List α) (x : α) : compL (l ++ [x]) = cstep (compL l) x := by rw [compL, List.foldl_append]; rfl
theorem compL_rev : ∀ (n : Nat) (l : List α), l.length = n → (compL l).getLast? = l.getLast? ∧ (compL l).length ≤ l.length
  | 0, l, h => by rw [List.eq_nil_of_length_eq_zero h]; exact ⟨rfl, Nat.le_refl _⟩
  | n + 1, l, h => by
    have hne : l ≠ [] := by rintro rfl; simp at h
    rw [← List.dropLast_concat_getLast hne]
    have h3 : l.dropLast.length = l.length - 1 := List.length_dropLast
    have ih := compL_rev n l.dropLast (by omega)
    rw [compL_snoc, cstep]
    split
    · rename_i hs
      rw [hs, List.length_append]; exact ⟨by simp, by have := ih.2; simp; omega⟩
    · rw [List.length_append, List.length_append]; exact ⟨by simp, by have := ih.2; simp; omega⟩
theorem compL_last (l : List α) : (compL l).getLast? = l.getLast? := (compL_rev _ l rfl).1
theorem compL_len (l : List α) : (compL l).length ≤ l.length := (compL_rev _ l rfl).2
theorem compL_short {l : List α} (h : l.length < 2) : compL l = l := by
  match l, h with
  | [], _ => rfl
  | [x], _ => rfl
theorem compL_step (d : α) {xs : List α} {n : Nat} (h1 : 1 ≤ n) (h : n < xs.length) : compL (xs.take (n + 1)) = if xs.getD (n - 1) d = xs.getD n d then compL (xs.take n) else compL (xs.take n) ++ [xs.getD n d] := by
  rw [take_at d h, compL_snoc, cstep, compL_last]
  have e : (xs.take n).getLast? = some (xs.getD (n - 1) d) := by
    rw [List.getLast?_eq_getElem?, List.length_take, Nat.min_eq_left (by omega), List.getElem?_take, if_pos (by omega), List.getElem?_eq_getElem (by omega)]
    simp [List.getD, show n - 1 < xs.length by omega]
  rw [e]
  simp only [Option.some.injEq]
theorem compL_eq (d : α) {xs : List α} {n : Nat} (h1 : 1 ≤ n) (h : n < xs.length) (he : xs.getD n d = xs.getD (n - 1) d) : compL (xs.take (n + 1)) = compL (xs.take n) := by
  rw [compL_step d h1 h, if_pos he.symm]
theorem compL_ne (d : α) {xs : List α} {n : Nat} (h1 : 1 ≤ n) (h : n < xs.length) (he : ¬ xs.getD n d = xs.getD (n - 1) d) : compL (xs.take (n + 1)) = compL (xs.take n) ++ [xs.getD n d] := by
  rw [compL_step d h1 h, if_neg (fun hc => he hc.symm)]
end
structure CF {α : Type} [DecidableEq α] (xs : List α) (k : Nat) (zs : List (Option α)) (i j : Nat) : Prop where
  len : zs.length = xs.length + k
  cnt : i = (compL (xs.take j)).length
  lt : i < j
  le : j ≤ xs.length
  front : zs.take i = (compL (xs.take j)).map some
  rest : zs.drop (j - 1) = (xs.map some ++ List.replicate k none).drop (j - 1)
section
variable {α : Type} [DecidableEq α] {xs : List α} {k : Nat} {zs : List (Option α)} {i j : Nat}
theorem CF.get (q : CF xs k zs i j) (d : α) {m : Nat} (h : j - 1 ≤ m) (h2 : m < xs.length) : zs.getD m none = some (xs.getD m d) := by
  rw [← raw_getD (k := k) d h2, List.getD_eq_getElem?_getD, List.getD_eq_getElem?_getD]
  have := congrArg (·[m - (j - 1)]?) q.rest
  simp only [List.getElem?_drop, show j - 1 + (m - (j - 1)) = m by omega] at this
  rw [this]
theorem CF.first (d : α) {n : Nat} (h1 : 1 ≤ n) (h : n < xs.length) (hc : compL (xs.take n) = xs.take n) (he : xs.getD n d = xs.getD (n - 1) d) : CF xs k (xs.map some ++ List.replicate k none) n (n + 1) := by
  have e : compL (xs.take (n + 1)) = xs.take n := by rw [compL_eq d h1 h he, hc]
  exact ⟨by simp, by rw [e, List.length_take]; omega, by omega, by omega, by rw [e, raw_take (by omega)], rfl⟩
theorem CF.same (q : CF xs k zs i j) (d : α) (h : j < xs.length) (he : xs.getD j d = xs.getD (j - 1) d) : CF xs k zs i (j + 1) := by
  have hlt := q.lt
  have e : compL (xs.take (j + 1)) = compL (xs.take j) := compL_eq d (by omega) h he
  refine ⟨q.len, by rw [e]; exact q.cnt, by omega, by omega, by rw [e]; exact q.front, ?_⟩
  have := congrArg (List.drop 1) q.rest
  simp only [List.drop_drop] at this
  rw [show j - 1 + 1 = j by omega] at this
  rw [Nat.add_sub_cancel]; exact this
theorem CF.new (q : CF xs k zs i j) (d : α) (h : j < xs.length) (he : ¬ xs.getD j d = xs.getD (j - 1) d) : CF xs k (zs.set i (some (xs.getD j d))) (i + 1) (j + 1) := by
  have hlt := q.lt
  have e : compL (xs.take (j + 1)) = compL (xs.take j) ++ [xs.getD j d] := compL_ne d (by omega) h he
  have hl := q.len
  refine ⟨by rw [List.length_set]; exact hl, by rw [e, List.length_append, ← q.cnt]; rfl, by omega, by omega, ?_, ?_⟩
  · rw [e, List.map_append, ← q.front, take_at none (by rw [List.length_set]; omega), List.take_set_of_le (Nat.le_refl _)]
    congr 1
    rw [List.getD_eq_getElem?_getD, List.getElem?_set_self (by omega)]; rfl
  · have := congrArg (List.drop 1) q.rest
    simp only [List.drop_drop] at this
    rw [show j - 1 + 1 = j by omega] at this
    rw [Nat.add_sub_cancel, List.drop_set_of_lt (by omega)]; exact this
theorem CF.fin (q : CF xs k zs i xs.length) : zs.take i = (compL xs).map some := by
  have := q.front
  rwa [take_all (Nat.le_refl _)] at this
end
theorem sle_cases {x y : List UInt8} (h : x ≤ y) : x < y ∨ x = y := by
  by_cases hx : x < y
  · exact .inl hx
  · exact .inr (slt_total hx (List.not_lt.2 h))
theorem rise_ext : ∀ {a b : List (List UInt8)}, a.Pairwise (· < ·) → b.Pairwise (· < ·) → (∀ x, x ∈ a ↔ x ∈ b) → a = b
  | [], [], _, _, _ => rfl
  | [], y :: b, _, _, h => absurd ((h y).2 List.mem_cons_self) (by simp)
  | x :: a, [], _, _, h => absurd ((h x).1 List.mem_cons_self) (by simp)
  | x :: a, y :: b, ha, hb, h => by
    rw [List.pairwise_cons] at ha hb
    have hxy : x = y := by
      rcases List.mem_cons.1 ((h x).1 List.mem_cons_self) with h1 | h1
      · exact h1
      · rcases List.mem_cons.1 ((h y).2 List.mem_cons_self) with h2 | h2
        · exact h2.symm
        · exact absurd (hb.1 x h1) (slt_asymm (ha.1 y h2))
    subst hxy
    congr 1
    refine rise_ext ha.2 hb.2 fun z => ⟨fun hz => ?_, fun hz => ?_⟩
    · rcases List.mem_cons.1 ((h z).1 (List.mem_cons_of_mem _ hz)) with h1 | h1
      · subst h1; exact absurd (ha.1 z hz) (slt_irrefl z)
      · exact h1
    · rcases List.mem_cons.1 ((h z).2 (List.mem_cons_of_mem _ hz)) with h1 | h1
      · subst h1; exact absurd (hb.1 z hz) (slt_irrefl z)
      · exact h1
theorem sortStr_pw (l : List (List UInt8)) : (sortStr l).Pairwise (· ≤ ·) := by
  have := List.pairwise_mergeSort (le := fun x y : List UInt8 => decide (x ≤ y)) (fun a b c h1 h2 => by
    simp only [decide_eq_true_eq] at *; exact List.le_trans h1 h2) (fun a b => by
    simp only [Bool.or_eq_true, decide_eq_true_eq]; exact List.le_total a b) l
  exact this.imp fun h => by simpa using h
theorem sortStr_mem {l : List (List UInt8)} {x : List UInt8} : x ∈ sortStr l ↔ x ∈ l := (List.mergeSort_perm _ _).mem_iff
theorem sortStr_len (l : List (List UInt8)) : (sortStr l).length = l.length := (List.mergeSort_perm _ _).length_eq
theorem compL_mem' {α : Type} [DecidableEq α] : ∀ (n : Nat) (l : List α), l.length = n → ∀ x, x ∈ compL l ↔ x ∈ l
  | 0, l, h, x => by rw [List.eq_nil_of_length_eq_zero h]; exact Iff.rfl
  | n + 1, l, h, x => by
    have hne : l ≠ [] := by rintro rfl; simp at h
    rw [← List.dropLast_concat_getLast hne]
    have h3 : l.dropLast.length = l.length - 1 := List.length_dropLast
    have ih := compL_mem' n l.dropLast (by omega) x
    rw [compL_snoc, cstep]
    split
    · rename_i hs
      rw [ih, List.mem_append, List.mem_singleton]
      refine ⟨.inl, fun hx => hx.elim id fun hx => ?_⟩
      rw [compL_last] at hs
      rw [hx]; exact List.mem_of_getLast? hs
    · rw [List.mem_append, List.mem_append, ih]
theorem compL_mem {α : Type} [DecidableEq α] {l : List α} {x : α} : x ∈ compL l ↔ x ∈ l := compL_mem' _ l rfl x
theorem compL_rise' : ∀ (n : Nat) (l : List (List UInt8)), l.length = n → l.Pairwise (· ≤ ·) → (compL l).Pairwise (· < ·)
  | 0, l, h, _ => by rw [List.eq_nil_of_length_eq_zero h]; exact List.Pairwise.nil
  | n + 1, l, h, hp => by
    have hne : l ≠ [] := by rintro rfl; simp at h
    rw [← List.dropLast_concat_getLast hne] at hp ⊢
    have h3 : l.dropLast.length = l.length - 1 := List.length_dropLast
    rw [List.pairwise_append] at hp
    have ih := compL_rise' n l.dropLast (by omega) hp.1
    rw [compL_snoc, cstep]
    split
    · exact ih
    · rename_i hs
      rw [List.pairwise_append]
      refine ⟨ih, by simp, fun a ha b hb => ?_⟩
      rw [List.mem_singleton] at hb
      subst hb
      have h4 := hp.2.2 a (compL_mem.1 ha) _ (List.mem_singleton.2 rfl)
      rcases sle_cases h4 with h5 | h5
      · exact h5
      · exfalso
        -- a is the greatest: it is the last
        apply hs
        have hne2 : compL l.dropLast ≠ [] := List.ne_nil_of_mem ha
        rw [List.getLast?_eq_some_getLast hne2]
        congr 1
        have h6 : (compL l.dropLast).getLast hne2 ∈ l.dropLast := compL_mem.1 (List.getLast_mem hne2)
        have h7 := hp.2.2 _ h6 _ (List.mem_singleton.2 rfl)
        rcases sle_cases h7 with h8 | h8
        · exfalso
          rw [← List.dropLast_concat_getLast hne2] at ih ha
          rw [List.pairwise_append] at ih
          rcases List.mem_append.1 ha with h9 | h9
          · have := ih.2.2 a h9 _ (List.mem_singleton.2 rfl)
            rw [h5] at this
            exact slt_asymm this h8
          · rw [List.mem_singleton] at h9
            rw [← h9, h5] at h8; exact slt_irrefl _ h8
        · exact h8
theorem compL_rise {l : List (List UInt8)} (h : l.Pairwise (· ≤ ·)) : (compL l).Pairwise (· < ·) := compL_rise' _ l rfl h
def sortU (l : List (List UInt8)) : List (List UInt8) := compL (sortStr l)
theorem sortU_rise (l : List (List UInt8)) : (sortU l).Pairwise (· < ·) := compL_rise (sortStr_pw l)
theorem sortU_mem {l : List (List UInt8)} {x : List UInt8} : x ∈ sortU l ↔ x ∈ l := by rw [sortU, compL_mem, sortStr_mem]
theorem sortU_len (l : List (List UInt8)) : (sortU l).length ≤ l.length := by
  have := compL_len (sortStr l)
  rw [sortStr_len] at this
  exact this
def posK (k : List UInt8) : List (List UInt8) → Nat
  | [] => 0
  | x :: r => if sless x k = true then posK k r + 1 else 0
def addK (l : List (List UInt8)) (k : List UInt8) : List (List UInt8) := if posK k l < l.length ∧ l.getD (posK k l) [] = k then l else l.take (posK k l) ++ [k] ++ l.drop (posK k l)
theorem addK_cons (x : List UInt8) (r : List (List UInt8)) (k : List UInt8) : addK (x :: r) k = if sless x k = true then x :: addK r k else if x = k then x :: r else k :: x :: r := by
  unfold addK
  rw [posK]
  split
  · simp only [List.length_cons, List.getD_cons_succ, List.take_succ_cons, List.drop_succ_cons, Nat.add_lt_add_iff_right]
    split <;> simp
  · simp only [List.length_cons, Nat.zero_lt_succ, List.getD_cons_zero, true_and, List.take_zero, List.drop_zero, List.nil_append]
    rfl
theorem addK_mem (k x : List UInt8) : ∀ (l : List (List UInt8)), x ∈ addK l k ↔ x ∈ l ∨ x = k
  | [] => by simp [addK, posK]
  | y :: r => by
    have ih := addK_mem k x r
    rw [addK_cons]
    split
    · rw [List.mem_cons, ih, List.mem_cons, or_assoc]
    · split
      · rename_i h; subst h
        rw [List.mem_cons]
        exact ⟨.inl, fun h => h.elim id .inl⟩
      · rw [List.mem_cons]; exact or_comm
theorem addK_rise (k : List UInt8) : ∀ (l : List (List UInt8)), l.Pairwise (· < ·) → (addK l k).Pairwise (· < ·)
  | [], _ => by simp [addK, posK]
  | y :: r, h => by
    have h' := List.pairwise_cons.1 h
    have ih := addK_rise k r h'.2
    rw [addK_cons]
    split
    · rename_i hs
      rw [List.pairwise_cons]
      refine ⟨fun z hz => ?_, ih⟩
      rcases (addK_mem k z r).1 hz with h1 | h1
      · exact h'.1 z h1
      · rw [h1]; exact sless_iff.1 hs
    · split
      · exact h
      · rename_i hs hne
        have hky : k < y := by
          rcases sle_cases (List.not_lt.1 (fun hc => hs (sless_iff.2 hc))) with h1 | h1
          · exact h1
          · exact absurd h1.symm hne
        rw [List.pairwise_cons]
        refine ⟨fun z hz => ?_, h⟩
        rcases List.mem_cons.1 hz with h1 | h1
        · rw [h1]; exact hky
        · exact slt_trans hky (h'.1 z h1)
theorem foldK (l : List (List UInt8)) : ∀ (acc : List (List UInt8)), acc.Pairwise (· < ·) → (l.foldl addK acc).Pairwise (· < ·) ∧ ∀ x, x ∈ l.foldl addK acc ↔ x ∈ acc ∨ x ∈ l := by
  induction l with
  | nil => intro acc h; exact ⟨h, by simp⟩
  | cons k l ih =>
    intro acc h
    obtain ⟨h1, h2⟩ := ih (addK acc k) (addK_rise k acc h)
    refine ⟨h1, fun x => ?_⟩
    rw [List.foldl_cons, h2, addK_mem, List.mem_cons, or_assoc]
theorem sortU_fold (l : List (List UInt8)) : l.foldl addK [] = sortU l := by
  obtain ⟨h1, h2⟩ := foldK l [] List.Pairwise.nil
  refine rise_ext h1 (sortU_rise l) fun x => ?_
  rw [h2, sortU_mem]; simp
end Go.Proofs.YtkmfjlfejdoehaaGreat

namespace Go.Proofs.YtkmfjlfejdoehaaGreat
open Go.Proofs Go.Shelf
def lays190_ren : Go.Shelf.Ren := ⟨fun | 190 => 142 | 125 => 194 | 258 => 193 | 128 => 235 | 129 => 236 | 302 => 226 | 303 => 227 | 304 => 228 | 305 => 229 | 306 => 230 | 307 => 231 | 308 => 232 | 309 => 233 | 310 => 234 | 333 => 247 | 329 => 248 | 330 => 249 | 334 => 250 | 335 => 251 | 336 => 252 | 344 => 256 | n => n, fun | 31 => 82 | 9 => 9 | 3 => 3 | 46 => 179 | 0 => 0 | 51 => 259 | 53 => 187 | 4 => 4 | 183 => 252 | 182 => 251 | 131 => 114 | 5 => 5 | 218 => 268 | 222 => 272 | 228 => 276 | 229 => 277 | n => n, fun | n => n⟩
theorem lays190 : Go.Proofs.Lays.n190 Tryz.prog lays190_ren := {
  mixed := by kernel_rfl
  f125 := Tryz.func194.trans (congrArg some (by kernel_rfl))
  f128 := Tryz.func235.trans (congrArg some (by kernel_rfl))
  f129 := Tryz.func236.trans (congrArg some (by kernel_rfl))
  f190 := Tryz.func142.trans (congrArg some (by kernel_rfl))
  f258 := Tryz.func193.trans (congrArg some (by kernel_rfl))
  f302 := Tryz.func226.trans (congrArg some (by kernel_rfl))
  f303 := Tryz.func227.trans (congrArg some (by kernel_rfl))
  f304 := Tryz.func228.trans (congrArg some (by kernel_rfl))
  f305 := Tryz.func229.trans (congrArg some (by kernel_rfl))
  f306 := Tryz.func230.trans (congrArg some (by kernel_rfl))
  f307 := Tryz.func231.trans (congrArg some (by kernel_rfl))
  f308 := Tryz.func232.trans (congrArg some (by kernel_rfl))
  f309 := Tryz.func233.trans (congrArg some (by kernel_rfl))
  f310 := Tryz.func234.trans (congrArg some (by kernel_rfl))
  f329 := Tryz.func248.trans (congrArg some (by kernel_rfl))
  f330 := Tryz.func249.trans (congrArg some (by kernel_rfl))
  f333 := Tryz.func247.trans (congrArg some (by kernel_rfl))
  f334 := Tryz.func250.trans (congrArg some (by kernel_rfl))
  f335 := Tryz.func251.trans (congrArg some (by kernel_rfl))
  f336 := Tryz.func252.trans (congrArg some (by kernel_rfl))
  f344 := Tryz.func256.trans (congrArg some (by kernel_rfl))
  t0 := Tryz.underlying0
  a0 := Tryz.isAgg0
  z0 := Tryz.sizeOf0
  v0 := Tryz.zeroValue0
  t3 := Tryz.underlying3
  a3 := Tryz.isAgg3
  z3 := Tryz.sizeOf3
  v3 := Tryz.zeroValue3
  t4 := Tryz.underlying4
  a4 := Tryz.isAgg4
  z4 := Tryz.sizeOf4
  v4 := Tryz.zeroValue4
  t5 := Tryz.underlying5
  a5 := Tryz.isAgg5
  z5 := Tryz.sizeOf5
  v5 := Tryz.zeroValue5
  t9 := Tryz.underlying9
  a9 := Tryz.isAgg9
  z9 := Tryz.sizeOf9
  v9 := Tryz.zeroValue9
  t31 := Tryz.underlying82
  a31 := Tryz.isAgg82
  z31 := Tryz.sizeOf82
  v31 := Tryz.zeroValue82
  t46 := Tryz.underlying179
  a46 := Tryz.isAgg179
  z46 := Tryz.sizeOf179
  v46 := Tryz.zeroValue179
  t51 := Tryz.underlying259
  a51 := Tryz.isAgg259
  z51 := Tryz.sizeOf259
  v51 := Tryz.zeroValue259
  t53 := Tryz.underlying187
  a53 := Tryz.isAgg187
  z53 := Tryz.sizeOf187
  v53 := Tryz.zeroValue187
  t131 := Tryz.underlying114
  a131 := Tryz.isAgg114
  z131 := Tryz.sizeOf114
  v131 := Tryz.zeroValue114
  t182 := Tryz.underlying251
  a182 := Tryz.isAgg251
  z182 := Tryz.sizeOf251
  v182 := Tryz.zeroValue251
  t183 := Tryz.underlying252
  a183 := Tryz.isAgg252
  z183 := Tryz.sizeOf252
  v183 := Tryz.zeroValue252
  t218 := Tryz.underlying268
  a218 := Tryz.isAgg268
  z218 := Tryz.sizeOf268
  v218 := Tryz.zeroValue268
  t222 := Tryz.underlying272
  a222 := Tryz.isAgg272
  z222 := Tryz.sizeOf272
  v222 := Tryz.zeroValue272
  t228 := Tryz.underlying276
  a228 := Tryz.isAgg276
  z228 := Tryz.sizeOf276
  v228 := Tryz.zeroValue276
  t229 := Tryz.underlying277
  a229 := Tryz.isAgg277
  z229 := Tryz.sizeOf277
  v229 := Tryz.zeroValue277 }
end Go.Proofs.YtkmfjlfejdoehaaGreat

set_option linter.unusedVariables false
set_option linter.unusedSimpArgs false
set_option maxRecDepth 8000
set_option maxHeartbeats 4000000
namespace Go.Proofs.YtkmfjlfejdoehaaGreat
open Go.Eng
theorem fSort : FnOk Tryz.prog 142 := ⟨_, Tryz.func142, by decide, rfl⟩
noncomputable def iSort : Eng.Spec := sortSpec .str sortStr
theorem pSort : SpecOk Tryz.prog 142 iSort := sortStr_ok lays190 rfl
def sCompact : OSpec := ⟨9, .str, [], fun xs _ => xs.length ≤ 1000000, fun xs _ => compL (α := List UInt8) xs⟩
theorem fCompact : FnOk Tryz.prog 143 := ⟨_, Tryz.func143, by decide, rfl⟩
theorem pCompact : SpecOk Tryz.prog 143 sCompact.spec := by
  refine oOk (T := tab) (S := (spOf [])) (keep := k143) (by kernel_rfl) tabOk spNil (by kernel_rfl) Tryz.func143 (by kernel_rfl) (by decide) (by decide) fun xs ys k hg hgt hmax hp => ?_
  obtain ⟨⟩ := ys
  change List (List UInt8) at xs
  change xs.length ≤ 1000000 at hp
  clear hg hgt
  show vfun tab _ k143 Tryz.f143 [.vw 0 .str 0 xs.length true] [(0, .raw 9 .str (xs.map some ++ List.replicate k (none : Option (Ty.den .str))))] _
  refine Ev.out ?_
  repeat' (first | ((with_reducible refine Ev.mk ?_); conv => whnf) | (with_reducible refine And.intro ?_ ?_) | (intro h))
  all_goals (try simp only [decide_eq_true_eq, decide_eq_false_iff_not, beq_iff_eq, bne_iff_ne, beq_eq_false_iff_ne, bne_eq_false_iff_eq, Int.toNat_natCast, ge_iff_le, gt_iff_lt, Bool.not_eq_true', Bool.not_eq_false', Int.not_lt, Int.not_le, ne_eq] at *)
  all_goals (try dsimp only [Ty.den, Ty.dflt, .str] at *)
  all_goals (try simp only [eq4, ne4, eq3, ne3, eq2, ne2, Prod.eta, List.length_cons, List.length_nil, List.length_append, Nat.zero_add] at *)
  all_goals (try simp (disch := omega) only [wrap64] at *)
  all_goals (try simp only [Int.sub_zero, Int.toNat_natCast, Int.toNat_sub, Int.toNat_zero, Nat.zero_add, toNat_add', toNat_addsub, toNat_subadd, List.length_map, List.length_append, List.length_replicate, List.length_take, List.length_drop] at *)
  · refine Leaf.mk (readO_vw.trans (congrArg some (?_ : _ = (compL xs).map some)))
    rw [compL_short (by omega)]
    refine (raw_take (Nat.le_refl _)).trans ?_
    rw [take_all (Nat.le_refl _)]
  have hrg : ∀ i, i < xs.length → (xs.map some ++ List.replicate k none).getD i none = some (xs.getD i []) := fun i h => raw_getD [] h
  refine LoopVC.on (fun n : Nat => [(3, .i .i64 n)]) (fun _ => []) (fun n => 1 ≤ n ∧ n ≤ xs.length ∧ compL (xs.take n) = xs.take n) (fun n => xs.length - n) 1 rfl ⟨by omega, by omega, compL_short (by rw [List.length_take]; omega)⟩ ?_
  intro n ⟨hn1, hn, he⟩
  repeat' (first | ((with_reducible refine Ev.mk ?_); conv => whnf) | (with_reducible refine And.intro ?_ ?_) | (intro h))
  all_goals (try simp only [decide_eq_true_eq, decide_eq_false_iff_not, beq_iff_eq, bne_iff_ne, beq_eq_false_iff_ne, bne_eq_false_iff_eq, Int.toNat_natCast, ge_iff_le, gt_iff_lt, Bool.not_eq_true', Bool.not_eq_false', Int.not_lt, Int.not_le, ne_eq] at *)
  all_goals (try dsimp only [Ty.den, Ty.dflt, .str] at *)
  all_goals (try simp only [eq4, ne4, eq3, ne3, eq2, ne2, Prod.eta, List.length_cons, List.length_nil, List.length_append, Nat.zero_add] at *)
  all_goals (try simp (disch := omega) only [wrap64] at *)
  all_goals (try simp only [Int.sub_zero, Int.toNat_natCast, Int.toNat_sub, Int.toNat_zero, Nat.zero_add, toNat_add', toNat_addsub, toNat_subadd, List.length_map, List.length_append, List.length_replicate, List.length_take, List.length_drop] at *)
  all_goals try rw [show ((n : Int) - 1).toNat = n - 1 by omega] at *
  all_goals try rw [hrg n (by omega), hrg (n - 1) (by omega)] at *
  all_goals try rw [hrg n (by omega)] at *
  all_goals try rw [hrg (n - 1) (by omega)] at *
  all_goals try first | exact leafDraw (by kernel_rfl) | exact Leaf.mk trivial | (refine Leaf.mk ?_; omega) | (refine Leaf.mk ?_; unfold maxLen; omega)
  all_goals try simp only [Option.getD_some] at *
  all_goals try exact Leaf.mk rfl
  rotate_left
  · refine Leaf.mk ⟨n + 1, rfl, ⟨by omega, by omega, ?_⟩, by omega⟩
    rw [compL_ne [] hn1 (by omega) h, he, take_at [] (by omega)]
  · refine Leaf.mk (readO_vw.trans (congrArg some (?_ : _ = (compL xs).map some)))
    rw [take_all (by omega)] at he
    rw [he]
    refine (raw_take (Nat.le_refl _)).trans ?_
    rw [take_all (Nat.le_refl _)]
  refine LoopVC.on (fun a : Nat × Nat × List (Option (List UInt8)) => [(3, .i .i64 a.1), (5, .i .i64 ((a.2.1 - n : Nat) : Int))]) (fun a => [(0, .raw 9 .str a.2.2)]) (fun a => n + 1 ≤ a.2.1 ∧ CF xs k a.2.2 a.1 a.2.1) (fun a => xs.length - a.2.1) (n, n + 1, xs.map some ++ List.replicate k none) ?_ ⟨Nat.le_refl _, CF.first [] hn1 (by omega) he h⟩ ?_
  · show _ = _
    rw [show n + 1 - n = 1 by omega]; rfl
  intro ⟨i, j, zs⟩ ⟨hj, q⟩
  dsimp only at hj q ⊢
  have hlt := q.lt
  have hle := q.le
  have hzl := q.len
  have hg1 := fun h => q.get [] (m := j) (by omega) h
  have hg2 := fun h => q.get [] (m := j - 1) (Nat.le_refl _) h
  repeat' (first | ((with_reducible refine Ev.mk ?_); conv => whnf) | (with_reducible refine And.intro ?_ ?_) | (intro h))
  all_goals (try simp only [decide_eq_true_eq, decide_eq_false_iff_not, beq_iff_eq, bne_iff_ne, beq_eq_false_iff_ne, bne_eq_false_iff_eq, Int.toNat_natCast, ge_iff_le, gt_iff_lt, Bool.not_eq_true', Bool.not_eq_false', Int.not_lt, Int.not_le, ne_eq] at *)
  all_goals (try dsimp only [Ty.den, Ty.dflt, .str] at *)
  all_goals (try simp only [eq4, ne4, eq3, ne3, eq2, ne2, Prod.eta, List.length_cons, List.length_nil, List.length_append, Nat.zero_add] at *)
  all_goals (try simp (disch := omega) only [wrap64] at *)
  all_goals (try simp only [Int.sub_zero, Int.toNat_natCast, Int.toNat_sub, Int.toNat_zero, Nat.zero_add, toNat_add', toNat_addsub, toNat_subadd, List.length_map, List.length_append, List.length_replicate, List.length_take, List.length_drop] at *)
  all_goals try rw [show n + (j - n) = j by omega] at *
  all_goals try rw [show n + (((j - n : Nat) : Int) - 1).toNat = j - 1 by omega] at *
  all_goals try rw [hg1 (by omega)] at *
  all_goals try rw [hg2 (by omega)] at *
  all_goals try simp only [Option.getD_some, Option.isSome_some] at *
  all_goals try first | exact leafDraw (by kernel_rfl) | exact Leaf.mk trivial | (refine Leaf.mk ?_; omega) | (refine Leaf.mk ?_; unfold maxLen; omega)
  all_goals try first
    | exact Leaf.mk rfl
    | (refine Leaf.mk ⟨(i + 1, j + 1, zs.set i (some (xs.getD j []))), ?_, ⟨by dsimp only; omega, q.new [] (by omega) ‹¬ _›⟩, by dsimp only; omega⟩
       dsimp only
       rw [show j + 1 - n = (j - n) + 1 by omega]; rfl)
    | (refine Leaf.mk ⟨(i, j + 1, zs), ?_, ⟨by dsimp only; omega, q.same [] (by omega) h⟩, by dsimp only; omega⟩
       dsimp only
       rw [show j + 1 - n = (j - n) + 1 by omega]; rfl)
  obtain rfl : j = xs.length := by omega
  refine Leaf.mk (readO_vw.trans (congrArg some (?_ : _ = (compL xs).map some)))
  change List.take (α := Option (List UInt8)) _ _ = _
  rw [List.append_assoc, List.take_append_of_le_length (by rw [List.length_take]; omega), List.take_take, Nat.min_self]
  exact q.fin
end Go.Proofs.YtkmfjlfejdoehaaGreat

set_option linter.unusedVariables false
set_option linter.unusedSimpArgs false
set_option maxRecDepth 8000
set_option maxHeartbeats 4000000
namespace Go.Proofs.YtkmfjlfejdoehaaGreat
open Go.Eng
abbrev MsgT : Ty := .pair (.int .u8) (.pair .str (.pair (.int .i64) (.pair (.int .i64) (.pair .bool .str))))
abbrev Msg := Int × List UInt8 × Int × Int × Bool × List UInt8
abbrev msg0 : Msg := (0, [], 0, 0, false, [])
abbrev FldT : Ty := .pair .bool (.pair .bool .bool)
def ofK (k : Int) : Bool × Bool × Bool := (decide (k = 0), decide (k = 0 ∨ k = 1 ∨ k = 2), decide (k = 1 ∨ k = 3))
def sOf : PSpec := ⟨[.d (.int .u8)], [⟨true, [.d FldT]⟩], fun _ => True, fun x => ((ofK x.1, ()), ())⟩
theorem fOf : FnOk Tryz.prog 126 := ⟨_, Tryz.func126, by decide, rfl⟩
theorem pOf : PSound Tryz.prog 126 sOf := by
  refine psound (T := tab) (S := (spOf [])) (keep := k126) (by kernel_rfl) tabOk spNil (by kernel_rfl) Tryz.func126 (by kernel_rfl) (by decide) fun xs hg hp => ?_
  obtain ⟨k, ⟨⟩⟩ := xs
  change Int at k
  show vfun tab _ k126 Tryz.f126 [.i .u8 k] [] _
  refine Ev.out ?_
  repeat' (first | ((with_reducible refine Ev.mk ?_); conv => whnf) | (with_reducible refine And.intro ?_ ?_) | (intro h))
  all_goals (try simp only [decide_eq_true_eq, decide_eq_false_iff_not, beq_iff_eq, bne_iff_ne, beq_eq_false_iff_ne, bne_eq_false_iff_eq, Int.toNat_natCast, ge_iff_le, gt_iff_lt, Bool.not_eq_true', Bool.not_eq_false', Int.not_lt, Int.not_le, ne_eq] at *)
  all_goals (try dsimp only [Ty.den, Ty.dflt, MsgT] at *)
  all_goals (try simp only [eq4, ne4, eq3, ne3, eq2, ne2, Prod.eta, List.length_cons, List.length_nil, List.length_append, Nat.zero_add] at *)
  all_goals (try simp (disch := omega) only [wrap64] at *)
  all_goals
    refine Leaf.mk (ret1 (show _ = ofK k from ?_))
    unfold ofK
    simp_all
def sMIn : PSpec := sIn
theorem fMIn : FnOk Tryz.prog 127 := ⟨_, Tryz.func127, by decide, rfl⟩
theorem pMIn : PSound Tryz.prog 127 sMIn := by
  refine psound (T := tab) (S := (spOf [])) (keep := k127) (by kernel_rfl) tabOk spNil (by kernel_rfl) Tryz.func127 (by kernel_rfl) (by decide) fun xs hg hp => ?_
  obtain ⟨n, ⟨⟩⟩ := xs
  change Int at n
  show vfun tab _ k127 Tryz.f127 [.i .i64 n] [] _
  refine Ev.out ?_
  repeat' (first | ((with_reducible refine Ev.mk ?_); conv => whnf) | (with_reducible refine And.intro ?_ ?_) | (intro h))
  all_goals (try simp only [decide_eq_true_eq, decide_eq_false_iff_not, beq_iff_eq, bne_iff_ne, beq_eq_false_iff_ne, bne_eq_false_iff_eq, Int.toNat_natCast, ge_iff_le, gt_iff_lt, Bool.not_eq_true', Bool.not_eq_false', Int.not_lt, Int.not_le, ne_eq] at *)
  all_goals (try dsimp only [Ty.den, Ty.dflt, VerT] at *)
  all_goals (try simp only [eq4, ne4, eq3, ne3, eq2, ne2, Prod.eta, List.length_cons, List.length_nil, List.length_append, Nat.zero_add] at *)
  all_goals (try simp (disch := omega) only [wrap64] at *)
  all_goals
    refine Leaf.mk (ret1 (show _ = inB n from ?_))
    simp only [inB]
    first
    | (rw [decide_eq_false (p := 0 ≤ n ∧ n ≤ 1099511627776) (by omega)]; done)
    | (congr 1; simp only [eq_iff_iff]; omega)
def mForm (m : Msg) : Prop := (m.1 = 0 ∨ (m.2.2.2.2.1 = false ∧ m.2.1.length = 0 ∧ m.2.2.2.2.2.length = 0)) ∧ (m.1 = 3 → m.2.2.1 = 0) ∧ (m.1 = 0 ∨ m.1 = 2 → m.2.2.2.1 = 0) ∧ (m.2.2.2.2.1 = false ∨ m.2.2.2.2.2.length = 0)
instance (m : Msg) : Decidable (mForm m) := by unfold mForm; infer_instance
def mcheck (m : Msg) : Int := if 3 < m.1 then 13 else if ¬ mForm m then 4 else if ¬ (inB m.2.2.1 = true ∧ inB m.2.2.2.1 = true) ∨ (m.1 = 1 ∧ m.2.2.2.1 = 0) then 9 else if 16 < m.2.1.length ∨ 24 < m.2.2.2.2.2.length then 5 else 0
def sMCheck : PSpec := ⟨[.d MsgT], [⟨false, [.d (.int .i64)]⟩], fun _ => True, fun x => ((mcheck x.1, ()), ())⟩
theorem fMCheck : FnOk Tryz.prog 65 := ⟨_, Tryz.func65, by decide, rfl⟩
theorem pMCheck : PSound Tryz.prog 65 sMCheck := by
  refine psound (T := tab) (S := (spOf [(126, sOf.spec (lsOf [])), (127, sMIn.spec (lsOf []))])) (keep := k65) (by kernel_rfl) tabOk (spCons (pOk pOf fOf (by decide) lsNil) (spCons (pOk pMIn fMIn (by decide) lsNil) spNil)) (by kernel_rfl) Tryz.func65 (by kernel_rfl) (by decide) fun xs hg hp => ?_
  obtain ⟨⟨kind, key, txn, ts, gone, val⟩, ⟨⟩⟩ := xs
  obtain ⟨⟨hk, hkl, htx, hts, -, hvl⟩, -⟩ := hg
  change List UInt8 at key
  change List UInt8 at val
  change Int at kind txn ts
  change Bool at gone
  change key.length ≤ _ at hkl
  change val.length ≤ _ at hvl
  have hkl := len63 hkl
  have hvl := len63 hvl
  have hk := bdu8 hk
  show vfun tab _ k65 Tryz.f65 [.agg [.i .u8 kind, .s key, .i .i64 txn, .i .i64 ts, .b gone, .s val]] [] _
  refine Ev.out ?_
  repeat' (first | ((with_reducible refine Ev.mk ?_); conv => whnf) | (with_reducible refine And.intro ?_ ?_) | (intro h))
  all_goals (try simp only [decide_eq_true_eq, decide_eq_false_iff_not, beq_iff_eq, bne_iff_ne, beq_eq_false_iff_ne, bne_eq_false_iff_eq, Int.toNat_natCast, ge_iff_le, gt_iff_lt, Bool.not_eq_true', Bool.not_eq_false', Int.not_lt, Int.not_le, ne_eq] at *)
  all_goals (try dsimp only [Ty.den, Ty.dflt, MsgT, sOf, ofK, sMIn, sIn] at *)
  all_goals (try simp only [eq4, ne4, eq3, ne3, eq2, ne2, Prod.eta, List.length_cons, List.length_nil, List.length_append, Nat.zero_add] at *)
  all_goals (try simp (disch := omega) only [wrap64] at *)
  all_goals try first | exact leafDraw (by kernel_rfl) | exact Leaf.mk trivial | (refine Leaf.mk ?_; omega) | (refine Leaf.mk ?_; unfold maxLen; omega)
  all_goals try simp only [← List.length_eq_zero_iff] at *
  all_goals try simp only [inB, decide_eq_true_eq, decide_eq_false_iff_not] at *
  all_goals
    refine Leaf.mk (ret1 (show (_ : Int) = mcheck (kind, key, txn, ts, gone, val) from ?_))
    simp only [mcheck, mForm, inB, decide_eq_true_eq]
    cases gone
  all_goals try simp only [reduceCtorEq, false_and, true_and, and_true, or_true, true_or, false_or, or_false, not_true_eq_false, not_false_eq_true] at *
  all_goals
    repeat' split
  all_goals first | rfl | (exfalso; omega)
def sMCheckR : PSpec := sMCheck
section
variable {α β γ δ ε ζ : Type} [BEq α] [LawfulBEq α] [BEq β] [LawfulBEq β] [BEq γ] [LawfulBEq γ] [BEq δ] [LawfulBEq δ] [BEq ε] [LawfulBEq ε] [BEq ζ] [LawfulBEq ζ]
end
end Go.Proofs.YtkmfjlfejdoehaaGreat

set_option linter.unusedVariables false
set_option linter.unusedSimpArgs false
set_option maxRecDepth 8000
set_option maxHeartbeats 4000000
namespace Go.Proofs.YtkmfjlfejdoehaaGreat
open Go.Eng
def wide (m : Msg) : Bool := decide (1 ≤ m.1 ∧ m.1 ≤ 3)
def sWide : PSpec := ⟨[.d MsgT], [⟨false, [.d .bool]⟩], fun _ => True, fun x => ((wide x.1, ()), ())⟩
def sWideR : PSpec := sWide
theorem fWide : FnOk Tryz.prog 108 := ⟨_, Tryz.func108, by decide, rfl⟩
theorem pWide : PSound Tryz.prog 108 sWide := by
  refine psound (T := tab) (S := (spOf [])) (keep := k108) (by kernel_rfl) tabOk spNil (by kernel_rfl) Tryz.func108 (by kernel_rfl) (by decide) fun xs hg hp => ?_
  obtain ⟨⟨kind, key, txn, ts, gone, val⟩, ⟨⟩⟩ := xs
  obtain ⟨⟨hk, -⟩, -⟩ := hg
  change List UInt8 at key
  change List UInt8 at val
  change Int at kind txn ts
  change Bool at gone
  have hk := bdu8 hk
  show vfun tab _ k108 Tryz.f108 [.agg [.i .u8 kind, .s key, .i .i64 txn, .i .i64 ts, .b gone, .s val]] [] _
  refine Ev.out ?_
  repeat' (first | ((with_reducible refine Ev.mk ?_); conv => whnf) | (with_reducible refine And.intro ?_ ?_) | (intro h))
  all_goals (try simp only [decide_eq_true_eq, decide_eq_false_iff_not, beq_iff_eq, bne_iff_ne, beq_eq_false_iff_ne, bne_eq_false_iff_eq, Int.toNat_natCast, ge_iff_le, gt_iff_lt, Bool.not_eq_true', Bool.not_eq_false', Int.not_lt, Int.not_le, ne_eq] at *)
  all_goals (try dsimp only [Ty.den, Ty.dflt, MsgT] at *)
  all_goals (try simp only [eq4, ne4, eq3, ne3, eq2, ne2, Prod.eta, List.length_cons, List.length_nil, List.length_append, Nat.zero_add] at *)
  all_goals (try simp (disch := omega) only [wrap64] at *)
  all_goals
    refine Leaf.mk (ret1 (show _ = wide (kind, key, txn, ts, gone, val) from ?_))
    unfold wide
    first
    | (rw [eq_comm, decide_eq_false_iff_not]; omega)
    | (rw [eq_comm, decide_eq_true_eq]; omega)
    | (congr 1; simp only [eq_iff_iff]; omega)
    | (rw [Bool.eq_iff_iff]; simp only [decide_eq_true_eq, beq_iff_eq]; omega)
def about (k : List UInt8) (m : Msg) : Bool := wide m || decide (m.1 = 0 ∧ m.2.1 = k)
def sAbout : PSpec := ⟨[.d MsgT, .d .str], [⟨false, [.d .bool]⟩], fun _ => True, fun x => ((about x.2.1 x.1, ()), ())⟩
def sAboutR : PSpec := sAbout
theorem fAbout : FnOk Tryz.prog 128 := ⟨_, Tryz.func128, by decide, rfl⟩
theorem pAbout : PSound Tryz.prog 128 sAbout := by
  refine psound (T := tab) (S := (spOf [(108, sWide.spec (lsOf []))])) (keep := k128) (by kernel_rfl) tabOk (spCons (pOk pWide fWide (by decide) lsNil) spNil) (by kernel_rfl) Tryz.func128 (by kernel_rfl) (by decide) fun xs hg hp => ?_
  obtain ⟨⟨kind, key, txn, ts, gone, val⟩, k, ⟨⟩⟩ := xs
  obtain ⟨⟨hk, -⟩, -⟩ := hg
  change List UInt8 at key
  change List UInt8 at val
  change Int at kind txn ts
  change Bool at gone
  have hk := bdu8 hk
  change List UInt8 at k
  show vfun tab _ k128 Tryz.f128 [.agg [.i .u8 kind, .s key, .i .i64 txn, .i .i64 ts, .b gone, .s val], .s k] [] _
  refine Ev.out ?_
  repeat' (first | ((with_reducible refine Ev.mk ?_); conv => whnf) | (with_reducible refine And.intro ?_ ?_) | (intro h))
  all_goals (try simp only [decide_eq_true_eq, decide_eq_false_iff_not, beq_iff_eq, bne_iff_ne, beq_eq_false_iff_ne, bne_eq_false_iff_eq, Int.toNat_natCast, ge_iff_le, gt_iff_lt, Bool.not_eq_true', Bool.not_eq_false', Int.not_lt, Int.not_le, ne_eq] at *)
  all_goals (try dsimp only [Ty.den, Ty.dflt, MsgT, sWide, sWideR] at *)
  all_goals (try simp only [eq4, ne4, eq3, ne3, eq2, ne2, Prod.eta, List.length_cons, List.length_nil, List.length_append, Nat.zero_add] at *)
  all_goals (try simp (disch := omega) only [wrap64] at *)
  all_goals try first | exact leafDraw (by kernel_rfl) | exact Leaf.mk trivial | (refine Leaf.mk ?_; omega) | (refine Leaf.mk ?_; unfold maxLen; omega)
  all_goals
    refine Leaf.mk (ret1 (show _ = about k (kind, key, txn, ts, gone, val) from ?_))
    unfold about
    dsimp only
    try rw [‹wide _ = false›]
    try rw [‹wide _ = true›]
    first
    | rfl
    | (rw [decide_eq_false (fun hc => by omega)]; rfl)
    | (rw [Bool.eq_iff_iff]; simp only [Bool.false_or, decide_eq_true_eq, beq_iff_eq]
       exact ⟨fun h => ⟨by assumption, h⟩, fun h => h.2⟩)
def applyM (s : Stk) (m : Msg) : Stk := if mcheck m = 0 ∧ about s.1 m = true then (if m.1 = 1 then commit s m.2.2.1 m.2.2.2.1 else if m.1 = 2 then abort s m.2.2.1 else if m.1 = 3 then prune s m.2.2.2.1 else write s (m.2.2.1, 0, m.2.2.2.2.1, m.2.2.2.2.2)) else s
def sApply : PSpec := ⟨[.d StT, .d MsgT], [⟨true, [.d StT]⟩], fun x => List.length x.1.2 ≤ 100000, fun x => ((applyM x.1 x.2.1, ()), ())⟩
theorem fApply : FnOk Tryz.prog 69 := ⟨_, Tryz.func69, by decide, rfl⟩
theorem pApply : PSound Tryz.prog 69 sApply := by
  refine psound (T := tab) (S := (spOf [(65, sMCheck.spec (lsOf [])), (128, sAbout.spec (lsOf [])), (129, sCloneV.spec (lsOf [])), (130, sCommit.spec (lsOf [])), (131, sAbort.spec (lsOf [])), (132, sPrune.spec (lsOf [])), (133, sWrite.spec (lsOf []))])) (keep := k69) (by kernel_rfl) tabOk (spCons (pOk pMCheck fMCheck (by decide) lsNil) (spCons (pOk pAbout fAbout (by decide) lsNil) (spCons (pOk pCloneV fCloneV (by decide) lsNil) (spCons (pOk pCommit fCommit (by decide) lsNil) (spCons (pOk pAbort fAbort (by decide) lsNil) (spCons (pOk pPrune fPrune (by decide) lsNil) (spCons (pOk pWrite fWrite (by decide) lsNil) spNil))))))) (by kernel_rfl) Tryz.func69 (by kernel_rfl) (by decide) fun xs hg hp => ?_
  obtain ⟨⟨skey, xs⟩, ⟨kind, key, txn, ts, gone, val⟩, ⟨⟩⟩ := xs
  obtain ⟨-, hg⟩ := hg
  obtain ⟨⟨hk, -⟩, -⟩ := hg
  change List UInt8 at key
  change List UInt8 at val
  change Int at kind txn ts
  change Bool at gone
  have hk := bdu8 hk
  change List UInt8 at skey
  change List Ver at xs
  change xs.length ≤ 100000 at hp
  show vfun tab _ k69 Tryz.f69 [.agg [.s skey, .sl VerT xs], .agg [.i .u8 kind, .s key, .i .i64 txn, .i .i64 ts, .b gone, .s val]] [] _
  refine Ev.out ?_
  repeat' (first | ((with_reducible refine Ev.mk ?_); conv => whnf) | (with_reducible refine And.intro ?_ ?_) | (intro h))
  all_goals (try simp only [decide_eq_true_eq, decide_eq_false_iff_not, beq_iff_eq, bne_iff_ne, beq_eq_false_iff_ne, bne_eq_false_iff_eq, Int.toNat_natCast, ge_iff_le, gt_iff_lt, Bool.not_eq_true', Bool.not_eq_false', Int.not_lt, Int.not_le, ne_eq] at *)
  all_goals (try dsimp only [Ty.den, Ty.dflt, MsgT, VerT, sMCheck, sAbout, sAboutR, sMCheckR] at *)
  all_goals (try simp only [eq4, ne4, eq3, ne3, eq2, ne2, Prod.eta, List.length_cons, List.length_nil, List.length_append, Nat.zero_add] at *)
  all_goals (try simp (disch := omega) only [wrap64] at *)
  all_goals try first | exact leafDraw (by kernel_rfl) | exact Leaf.mk trivial | (refine Leaf.mk ?_; omega) | (refine Leaf.mk ?_; unfold maxLen; omega)
  all_goals try first
    | exact Leaf.mk (show xs.length ≤ 100000 from hp)
    | exact Leaf.mk (show xs.length ≤ 1000000 by omega)
  all_goals
    refine Leaf.mk (ret1 (show (_ : Stk) = applyM (skey, xs) (kind, key, txn, ts, gone, val) from ?_))
    unfold applyM
    first
    | (refine Eq.trans ?_ (if_neg (fun hc => h hc.1)).symm; rfl)
    | (refine Eq.trans ?_ (if_neg (fun hc => Bool.noConfusion (hc.2.symm.trans h))).symm; rfl)
    | (refine Eq.trans ?_ (if_pos ⟨‹mcheck _ = 0›, ‹about _ _ = true›⟩).symm
       first
       | (refine Eq.trans ?_ (if_pos ‹kind = 1›).symm; rfl)
       | (refine Eq.trans ?_ (if_neg ‹¬ kind = 1›).symm
          first
          | (refine Eq.trans ?_ (if_pos ‹kind = 2›).symm; rfl)
          | (refine Eq.trans ?_ (if_neg ‹¬ kind = 2›).symm
             first
             | (refine Eq.trans ?_ (if_pos ‹kind = 3›).symm; rfl)
             | (refine Eq.trans ?_ (if_neg ‹¬ kind = 3›).symm; rfl))))
end Go.Proofs.YtkmfjlfejdoehaaGreat

set_option linter.unusedVariables false
set_option linter.unusedSimpArgs false
set_option maxRecDepth 8000
set_option maxHeartbeats 4000000
namespace Go.Proofs.YtkmfjlfejdoehaaGreat
open Go.Eng
theorem write_len' (s : Stk) (v : Ver) : (write s v).2.length ≤ s.2.length + 1 := by
  unfold write; repeat' split
  all_goals simp
theorem abort_len (s : Stk) (me : Int) : (abort s me).2.length ≤ s.2.length := List.length_filter_le _ _
theorem prune_len (s : Stk) (ts : Int) : (prune s ts).2.length ≤ s.2.length := keepN_le _ _ _ _
theorem commit_len (s : Stk) (me ts : Int) : (commit s me ts).2.length ≤ s.2.length + 1 := by
  unfold commit
  split
  · exact Nat.le_succ _
  · simp only [List.length_append, List.length_take, List.length_drop, List.length_singleton, cut]
    omega
theorem apply_len (s : Stk) (m : Msg) : (applyM s m).2.length ≤ s.2.length + 1 := by
  have h1 := write_len' s (m.2.2.1, 0, m.2.2.2.2.1, m.2.2.2.2.2)
  have h2 := abort_len s m.2.2.1
  have h3 := prune_len s m.2.2.2.1
  have h4 := commit_len s m.2.2.1 m.2.2.2.1
  unfold applyM
  repeat' split
  all_goals omega
def foldM (s : Stk) (l : List Msg) : Stk := l.foldl applyM s
theorem fold_len : ∀ (l : List Msg) (s : Stk), (foldM s l).2.length ≤ s.2.length + l.length
  | [], s => Nat.le_refl _
  | m :: l, s => by
    have h1 := apply_len s m
    have h2 := fold_len l (applyM s m)
    show (foldM (applyM s m) l).2.length ≤ _
    rw [List.length_cons]; omega
def sFold : PSpec := ⟨[.d StT, .d (.slice MsgT)], [⟨true, [.d StT]⟩], fun x => List.length x.1.2 + List.length x.2.1 ≤ 50000, fun x => ((foldM x.1 x.2.1, ()), ())⟩
theorem fFold : FnOk Tryz.prog 79 := ⟨_, Tryz.func79, by decide, rfl⟩
theorem pFold : PSound Tryz.prog 79 sFold := by
  refine psound (T := tab) (S := (spOf [(69, sApply.spec (lsOf []))])) (keep := k79) (by kernel_rfl) tabOk (spCons (pOk pApply fApply (by decide) lsNil) spNil) (by kernel_rfl) Tryz.func79 (by kernel_rfl) (by decide) fun xs hg hp => ?_
  obtain ⟨⟨skey, xs⟩, l, ⟨⟩⟩ := xs
  change List UInt8 at skey
  change List Ver at xs
  change List Msg at l
  change xs.length + l.length ≤ 50000 at hp
  clear hg
  show vfun tab _ k79 Tryz.f79 [.agg [.s skey, .sl VerT xs], .sl MsgT l] [] _
  refine Ev.out ?_
  repeat' (first | ((with_reducible refine Ev.mk ?_); conv => whnf) | (with_reducible refine And.intro ?_ ?_) | (intro h))
  all_goals (try simp only [decide_eq_true_eq, decide_eq_false_iff_not, beq_iff_eq, bne_iff_ne, beq_eq_false_iff_ne, bne_eq_false_iff_eq, Int.toNat_natCast, ge_iff_le, gt_iff_lt, Bool.not_eq_true', Bool.not_eq_false', Int.not_lt, Int.not_le, ne_eq] at *)
  all_goals (try dsimp only [Ty.den, Ty.dflt, VerT, MsgT] at *)
  all_goals (try simp only [eq4, ne4, eq3, ne3, eq2, ne2, Prod.eta, List.length_cons, List.length_nil, List.length_append, Nat.zero_add] at *)
  all_goals (try simp (disch := omega) only [wrap64] at *)
  all_goals try first | exact leafDraw (by kernel_rfl) | exact Leaf.mk trivial | (refine Leaf.mk ?_; omega) | (refine Leaf.mk ?_; unfold maxLen; omega)
  refine LoopVC.on (fun i : Nat => [(9, .i .i64 i)]) (fun i => [(0, .box [.s (foldM (skey, xs) (l.take i)).1, .sl VerT (foldM (skey, xs) (l.take i)).2])]) (fun i => i ≤ l.length) (fun i => l.length - i) 0 rfl (by omega) ?_
  intro i hi
  have hfl := fold_len (l.take i) (skey, xs)
  have htl : (l.take i).length ≤ i := by rw [List.length_take]; omega
  have hat : ∀ h : i < l.length, foldM (skey, xs) (l.take (i + 1)) = applyM (foldM (skey, xs) (l.take i)) (l.getD i msg0) := fun h => foldl_at msg0 h
  generalize hS : foldM (skey, xs) (l.take i) = S at *
  repeat' (first | ((with_reducible refine Ev.mk ?_); conv => whnf) | (with_reducible refine And.intro ?_ ?_) | (intro h))
  all_goals (try simp only [decide_eq_true_eq, decide_eq_false_iff_not, beq_iff_eq, bne_iff_ne, beq_eq_false_iff_ne, bne_eq_false_iff_eq, Int.toNat_natCast, ge_iff_le, gt_iff_lt, Bool.not_eq_true', Bool.not_eq_false', Int.not_lt, Int.not_le, ne_eq] at *)
  all_goals (try dsimp only [Ty.den, Ty.dflt, VerT, MsgT] at *)
  all_goals (try simp only [eq4, ne4, eq3, ne3, eq2, ne2, Prod.eta, List.length_cons, List.length_nil, List.length_append, Nat.zero_add] at *)
  all_goals (try simp (disch := omega) only [wrap64] at *)
  all_goals try first | exact leafDraw (by kernel_rfl) | exact Leaf.mk trivial | (refine Leaf.mk ?_; omega) | (refine Leaf.mk ?_; unfold maxLen; omega)
  all_goals first
    | exact Leaf.mk (show S.2.length ≤ 100000 by omega)
    | (refine Leaf.mk ⟨i + 1, ?_, by omega, by omega⟩
       rw [hat (by omega)]; rfl)
    | (refine Leaf.mk (ret1 (show (S.1, S.2) = foldM (skey, xs) l from ?_))
       rw [← hS, take_all (by omega)])
end Go.Proofs.YtkmfjlfejdoehaaGreat

set_option linter.unusedVariables false
set_option linter.unusedSimpArgs false
set_option maxRecDepth 8000
set_option maxHeartbeats 4000000
namespace Go.Proofs.YtkmfjlfejdoehaaGreat
open Go.Eng
abbrev MsT : Ty := .slice MsgT
def flN (p : Msg → Bool) (l : List Msg) (i : Nat) : List Msg := (l.take i).filter p
theorem flN_len (p : Msg → Bool) (l : List Msg) (i : Nat) : (flN p l i).length ≤ i := length_filter_take
theorem flN_in {p : Msg → Bool} {l : List Msg} {i : Nat} (h : i < l.length) (hr : p (l.getD i msg0) = true) : flN p l (i + 1) = flN p l i ++ [l.getD i msg0] := by
  rw [flN, filter_at msg0 h, if_pos hr]; rfl
theorem flN_out {p : Msg → Bool} {l : List Msg} {i : Nat} (h : i < l.length) (hr : p (l.getD i msg0) = false) : flN p l (i + 1) = flN p l i := by
  rw [flN, filter_at msg0 h, if_neg (by rw [hr]; simp), List.append_nil]; rfl
def withinK (lo hi k : List UInt8) : Bool := !sless k lo && ((hi == []) || sless k hi)
def sWithin : PSpec := ⟨[.d .str, .d .str, .d .str], [⟨false, [.d .bool]⟩], fun _ => True, fun x => ((withinK x.2.1 x.2.2.1 x.1, ()), ())⟩
theorem fWithin : FnOk Tryz.prog 83 := ⟨_, Tryz.func83, by decide, rfl⟩
theorem pWithin : PSound Tryz.prog 83 sWithin := by
  refine psound (T := tab) (S := (spOf [])) (keep := k83) (by kernel_rfl) tabOk spNil (by kernel_rfl) Tryz.func83 (by kernel_rfl) (by decide) fun xs hg hp => ?_
  obtain ⟨k, lo, hi, ⟨⟩⟩ := xs
  change List UInt8 at k lo hi
  clear hg hp
  show vfun tab _ k83 Tryz.f83 [.s k, .s lo, .s hi] [] _
  refine Ev.out ?_
  repeat' (first | ((with_reducible refine Ev.mk ?_); conv => whnf) | (with_reducible refine And.intro ?_ ?_) | (intro h))
  all_goals (try simp only [decide_eq_true_eq, decide_eq_false_iff_not, beq_iff_eq, bne_iff_ne, beq_eq_false_iff_ne, bne_eq_false_iff_eq, Int.toNat_natCast, ge_iff_le, gt_iff_lt, Bool.not_eq_true', Bool.not_eq_false', Int.not_lt, Int.not_le, ne_eq] at *)
  all_goals (try dsimp only [Ty.den, Ty.dflt, MsgT] at *)
  all_goals (try simp only [eq4, ne4, eq3, ne3, eq2, ne2, Prod.eta, List.length_cons, List.length_nil, List.length_append, Nat.zero_add] at *)
  all_goals (try simp (disch := omega) only [wrap64] at *)
  all_goals try first | exact leafDraw (by kernel_rfl) | exact Leaf.mk trivial | (refine Leaf.mk ?_; omega) | (refine Leaf.mk ?_; unfold maxLen; omega)
  all_goals
    refine Leaf.mk (ret1 (show _ = withinK lo hi k from ?_))
    simp [withinK, *]
def wrP (lo hi : List UInt8) (m : Msg) : Bool := (m.1 == 0) && withinK lo hi m.2.1
end Go.Proofs.YtkmfjlfejdoehaaGreat
