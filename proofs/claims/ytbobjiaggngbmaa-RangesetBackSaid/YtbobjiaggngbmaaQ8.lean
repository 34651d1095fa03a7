import Derived.Test.YtbobjiaggngbmaaQ7
import Derived.Test.YtbobjiaggngbmaaEng4
import Derived.Test.YtbobjiaggngbmaaTab
import Derived.Test.YtbobjiaggngbmaaEng3
import Derived.Test.YtbobjiaggngbmaaEng6
import Derived.Test.YtbobjiaggngbmaaEng5
import Derived.WalkKit
import Derived.Lib.Bytealg
import Derived.Shelf.GgSortFunc.InsertionK
/- Texts, one behind the other. -/
set_option linter.unusedVariables false
set_option linter.unusedSimpArgs false
namespace Go.Proofs.Ytbobjiaggngbmaa
open Go.Eng
theorem byte0 {xs : List Int} (hx : ∀ x ∈ xs, Eng.Good (.int .u8) x) (i : Nat) : 0 ≤ xs.getD i 0 ∧ xs.getD i 0 ≤ 255 := by
  rcases Nat.lt_or_ge i xs.length with h | h
  · exact bdu8 (good_at (e := .int .u8) hx h 0)
  · rw [List.getD_eq_getElem?_getD, List.getElem?_eq_none h]; decide
def putSmall (n : Int) : List Int := ((widthN 8 n : Nat) : Int) :: layB n (widthN 8 n)
def sPutSmall : PSpec := ⟨[.d (.int .u64)], [⟨false, [.o 5 (.int .u8)]⟩], fun _ => True, fun x => ((putSmall x.1, ()), ())⟩
theorem fPutSmall : FnOk Try.prog 45 := ⟨_, Try.func45, by decide, rfl⟩
theorem pPutSmall : PSound Try.prog 45 sPutSmall := by
  refine psound (T := tab) (S := (spOf [(69, sWidth.spec (lsOf [])), (70, sLay.spec (lsOf []))])) (keep := k45) (by kernel_rfl) tabOk (spCons (pOk pWidth fWidth (by decide) lsNil) (spCons (pOk pLay fLay (by decide) lsNil) spNil)) (by kernel_rfl) Try.func45 (by kernel_rfl) (by decide) fun xs hg hp => ?_
  obtain ⟨n, ⟨⟩⟩ := xs
  obtain ⟨hn, -⟩ := hg
  change Int at n
  have hn := bdu64 hn
  change 0 ≤ n ∧ n ≤ _ at hn
  have hw := widthN_le 8 n
  clear hp
  show vfun tab _ k45 Try.f45 [.i .u64 n] [] _
  refine Ev.out ?_
  repeat' (first | ((with_reducible refine Ev.mk ?_); conv => whnf) | (with_reducible refine And.intro ?_ ?_) | (intro h))
  all_goals (try simp only [decide_eq_true_eq, decide_eq_false_iff_not, beq_iff_eq, bne_iff_ne, beq_eq_false_iff_ne, bne_eq_false_iff_eq, Int.toNat_natCast, ge_iff_le, gt_iff_lt, Bool.not_eq_true', Bool.not_eq_false', Int.not_lt, Int.not_le, ne_eq] at *)
  all_goals (try dsimp only [Ty.den, Ty.dflt, BT, sWidth, sLay] at *)
  all_goals (try simp only [eq4, ne4, eq3, ne3, eq2, ne2, Prod.eta, List.length_cons, List.length_nil, List.length_append, Nat.zero_add] at *)
  all_goals (try simp (disch := omega) only [wrap64] at *)
  all_goals (try simp only [layB_len, Int.toNat_natCast] at *)
  all_goals try first | exact leafDraw (by kernel_rfl) | exact Leaf.mk trivial | (refine Leaf.mk ?_; omega) | (refine Leaf.mk ?_; unfold maxLen; omega)
  · exact Leaf.mk (show (0 : Int) ≤ ((widthN 8 n : Nat) : Int) ∧ ((widthN 8 n : Nat) : Int) ≤ 8 by omega)
  · refine Leaf.mk (ret1 (show [IntKind.u8.wrap ((widthN 8 n : Nat) : Int)] ++ layB n (((widthN 8 n : Nat) : Int)).toNat = putSmall n from ?_))
    rw [wrapU8, putSmall, Int.toNat_natCast]
    rw [show ((widthN 8 n : Nat) : Int) % 256 = ((widthN 8 n : Nat) : Int) by omega]; rfl
def getSmall (b : List Int) : Int × Int × Int :=
  if b.length = 0 then (0, 0, 3) else if 8 < b.getD 0 0 then (0, 0, 4) else if (b.length : Int) ≤ b.getD 0 0 then (0, 0, 3) else if 0 < b.getD 0 0 ∧ b.getD 1 0 = 0 then (0, 0, 4)
  else (numB ((b.take (b.getD 0 0 + 1).toNat).drop 1), b.getD 0 0 + 1, 0)
def sGetSmall : PSpec := ⟨[.d BT], [⟨false, [.d (.int .u64)]⟩, ⟨false, [.d (.int .i64)]⟩, ⟨false, [.d (.int .i64)]⟩], fun _ => True, fun x => (((getSmall x.1).1, ()), ((getSmall x.1).2.1, ()), ((getSmall x.1).2.2, ()), ())⟩
theorem fGetSmall : FnOk Try.prog 75 := ⟨_, Try.func75, by decide, rfl⟩
theorem pGetSmall : PSound Try.prog 75 sGetSmall := by
  refine psound (T := tab) (S := (spOf [(84, sNumber.spec (lsOf []))])) (keep := k75) (by kernel_rfl) tabOk (spCons (pOk pNumber fNumber (by decide) lsNil) spNil) (by kernel_rfl) Try.func75 (by kernel_rfl) (by decide) fun xs hg hp => ?_
  obtain ⟨xs, ⟨⟩⟩ := xs
  obtain ⟨⟨hl, hx⟩, -⟩ := hg
  change List Int at xs
  have hl := len63 hl
  change xs.length ≤ _ at hl
  change ∀ x ∈ xs, Eng.Good (.int .u8) x at hx
  clear hp
  have hb0 := byte0 hx 0
  show vfun tab _ k75 Try.f75 [.sl (.int .u8) xs] [] _
  refine Ev.out ?_
  repeat' (first | ((with_reducible refine Ev.mk ?_); conv => whnf) | (with_reducible refine And.intro ?_ ?_) | (intro h))
  all_goals (try simp only [decide_eq_true_eq, decide_eq_false_iff_not, beq_iff_eq, bne_iff_ne, beq_eq_false_iff_ne, bne_eq_false_iff_eq, Int.toNat_natCast, ge_iff_le, gt_iff_lt, Bool.not_eq_true', Bool.not_eq_false', Int.not_lt, Int.not_le, ne_eq] at *)
  all_goals (try dsimp only [Ty.den, Ty.dflt, BT, sNumber] at *)
  all_goals (try simp only [eq4, ne4, eq3, ne3, eq2, ne2, Prod.eta, List.length_cons, List.length_nil, List.length_append, Nat.zero_add] at *)
  all_goals (try simp (disch := omega) only [wrap64] at *)
  all_goals (try simp only [Int.reduceToNat] at *)
  all_goals (try simp (disch := omega) only [wrap64] at *)
  all_goals try first | exact leafDraw (by kernel_rfl) | exact Leaf.mk trivial | (refine Leaf.mk ?_; omega) | (refine Leaf.mk ?_; unfold maxLen; omega)
  all_goals clear hx
  all_goals (try (refine Leaf.mk ?_; omega))
  all_goals (refine Leaf.mk (ret3 ?_ ?_ ?_) <;> (dsimp only; rw [getSmall]; repeat (first | rw [if_pos (by omega)] | rw [if_neg (by omega)])))
  all_goals (dsimp only; rw [Int.add_comm])
end Go.Proofs.Ytbobjiaggngbmaa

set_option linter.unusedVariables false
set_option linter.unusedSimpArgs false
set_option maxRecDepth 8000
namespace Go.Proofs.Ytbobjiaggngbmaa
open Go.Eng
theorem flat_at {α : Type} {xs : List (List α)} {i : Nat} (h : i < xs.length) : (xs.take (i + 1)).flatten = (xs.take i).flatten ++ xs.getD i [] := by
  rw [take_at [] h, List.flatten_append]; simp
theorem flat_le {α : Type} {xs : List (List α)} (i : Nat) : (xs.take i).flatten.length ≤ xs.flatten.length := by
  conv => rhs; rw [← List.take_append_drop i xs]
  rw [List.flatten_append, List.length_append]; omega
theorem flat_get {α : Type} {xs : List (List α)} {i : Nat} (h : i < xs.length) : (xs.take i).flatten.length + (xs.getD i []).length ≤ xs.flatten.length := by
  have := flat_le (xs := xs) (i + 1)
  rw [flat_at h, List.length_append] at this; exact this
theorem fGrowB : FnOk Try.prog 71 := ⟨_, Try.func71, by decide, rfl⟩
noncomputable def iGrowB : Eng.Spec := inl tab (spOf []) k71 Try.f71
theorem pGrowB : SpecOk Try.prog 71 iGrowB := inl_ok tabOk spNil (by kernel_rfl) Try.func71 (by kernel_rfl)
def sConcatB : PSpec := ⟨[.d (.slice BT)], [⟨false, [.d BT]⟩], fun x => List.length x.1 ≤ 1000 ∧ List.length (List.flatten (α := Int) x.1) ≤ 1000000, fun x => ((List.flatten (α := Int) x.1, ()), ())⟩
theorem fConcatB : FnOk Try.prog 46 := ⟨_, Try.func46, by decide, rfl⟩
theorem pConcatB : PSound Try.prog 46 sConcatB := by
  refine psound (T := tab) (S := (spOf [(71, iGrowB)])) (keep := k46) (by kernel_rfl) tabOk (spCons (.inl ⟨pGrowB, fGrowB⟩) spNil) (by kernel_rfl) Try.func46 (by kernel_rfl) (by decide) fun xs hg hp => ?_
  obtain ⟨xs, ⟨⟩⟩ := xs
  change List (List Int) at xs
  change xs.length ≤ 1000 ∧ xs.flatten.length ≤ 1000000 at hp
  obtain ⟨hp, hf⟩ := hp
  show vfun tab _ k46 Try.f46 [.sl BT xs] [] _
  refine Ev.out ?_
  repeat' (first | ((with_reducible refine Ev.mk ?_); conv => whnf) | (with_reducible refine And.intro ?_ ?_) | (intro h))
  refine LoopVC.on (fun i : Nat => [(11, .i .i64 i), (3, .i .i64 ((xs.take i).flatten.length : Nat))]) (fun _ => []) (fun i => i ≤ xs.length) (fun i => xs.length - i) 0 rfl (by omega) ?_
  intro i hi
  have hle := flat_le (xs := xs) i
  have hge := fun h => flat_get (xs := xs) (i := i) h
  repeat' (first | ((with_reducible refine Ev.mk ?_); conv => whnf) | (with_reducible refine And.intro ?_ ?_) | (intro h))
  all_goals (try simp only [decide_eq_true_eq, decide_eq_false_iff_not, beq_iff_eq, bne_iff_ne, beq_eq_false_iff_ne, bne_eq_false_iff_eq, Int.toNat_natCast, ge_iff_le, gt_iff_lt, Bool.not_eq_true', Bool.not_eq_false', Int.not_lt, Int.not_le, ne_eq] at *)
  all_goals (try dsimp only [Ty.den, Ty.dflt, BT] at *)
  all_goals (try simp only [eq4, ne4, eq3, ne3, eq2, ne2, Prod.eta, List.length_cons, List.length_nil, List.length_append, Nat.zero_add] at *)
  all_goals (try simp (disch := omega) only [wrap64] at *)
  all_goals try first | exact leafDraw (by kernel_rfl) | exact Leaf.mk trivial | (refine Leaf.mk ?_; omega) | (refine Leaf.mk ?_; unfold maxLen; omega)
  · omega
  · refine Leaf.mk ⟨i + 1, ?_, by omega, by omega⟩
    rw [flat_at (by omega), List.length_append]; simp only [Int.natCast_add]; rfl
  · omega
  · refine LoopVC.on (fun j : Nat => [(27, .i .i64 j)]) (fun j => [(0, .arr 5 (.int .u8) (xs.take j).flatten)]) (fun j => j ≤ xs.length) (fun j => xs.length - j) 0 rfl (by omega) ?_
    intro j hj
    have hle := flat_le (xs := xs) j
    have hge := fun h => flat_get (xs := xs) (i := j) h
    repeat' (first | ((with_reducible refine Ev.mk ?_); conv => whnf) | (with_reducible refine And.intro ?_ ?_) | (intro h))
    all_goals (try simp only [decide_eq_true_eq, decide_eq_false_iff_not, beq_iff_eq, bne_iff_ne, beq_eq_false_iff_ne, bne_eq_false_iff_eq, Int.toNat_natCast, ge_iff_le, gt_iff_lt, Bool.not_eq_true', Bool.not_eq_false', Int.not_lt, Int.not_le, ne_eq] at *)
    all_goals (try dsimp only [Ty.den, Ty.dflt, BT] at *)
    all_goals (try simp only [eq4, ne4, eq3, ne3, eq2, ne2, Prod.eta, List.length_cons, List.length_nil, List.length_append, Nat.zero_add] at *)
    all_goals (try simp (disch := omega) only [wrap64] at *)
    all_goals try first | exact leafDraw (by kernel_rfl) | exact Leaf.mk trivial | (refine Leaf.mk ?_; omega) | (refine Leaf.mk ?_; unfold maxLen; omega)
    · refine Leaf.mk ⟨j + 1, ?_, by omega, by omega⟩
      rw [flat_at (by omega)]; rfl
    · rw [List.take_of_length_le (by omega)]; exact Leaf.mk (ret1 rfl)
  · refine LoopVC.weak [(.slot 6, .nil 5 (.int .u8))] (fun j : Nat => [(27, .i .i64 j)]) (fun j => [(0, .arr 5 (.int .u8) (xs.take j).flatten)]) (fun j => j ≤ xs.length) (fun j => xs.length - j) 0 (Ev.mk ?_)
    (conv => whnf)
    refine ⟨Leaf.mk rfl, Leaf.mk ?_, ?_⟩
    · omega
    intro j hj
    have hle := flat_le (xs := xs) j
    have hge := fun h => flat_get (xs := xs) (i := j) h
    repeat' (first | ((with_reducible refine Ev.mk ?_); conv => whnf) | (with_reducible refine And.intro ?_ ?_) | (intro h))
    all_goals (try simp only [decide_eq_true_eq, decide_eq_false_iff_not, beq_iff_eq, bne_iff_ne, beq_eq_false_iff_ne, bne_eq_false_iff_eq, Int.toNat_natCast, ge_iff_le, gt_iff_lt, Bool.not_eq_true', Bool.not_eq_false', Int.not_lt, Int.not_le, ne_eq] at *)
    all_goals (try dsimp only [Ty.den, Ty.dflt, BT] at *)
    all_goals (try simp only [eq4, ne4, eq3, ne3, eq2, ne2, Prod.eta, List.length_cons, List.length_nil, List.length_append, Nat.zero_add] at *)
    all_goals (try simp (disch := omega) only [wrap64] at *)
    all_goals try first | exact leafDraw (by kernel_rfl) | exact Leaf.mk trivial | (refine Leaf.mk ?_; omega) | (refine Leaf.mk ?_; unfold maxLen; omega)
    · refine Leaf.mk ⟨j + 1, ?_, by omega, by omega⟩
      rw [flat_at (by omega)]; rfl
    · rw [List.take_of_length_le (by omega)]; exact Leaf.mk (ret1 rfl)
end Go.Proofs.Ytbobjiaggngbmaa

set_option linter.unusedVariables false
set_option linter.unusedSimpArgs false
namespace Go.Proofs.Ytbobjiaggngbmaa
open Go.Eng
def sBCloneO : PSpec := ⟨[.d BT], [⟨false, [.o 5 (.int .u8)]⟩], fun x => x.1.length ≤ 1000000, fun x => ((x.1, ()), ())⟩
theorem fBCloneO : FnOk Try.prog 73 := ⟨_, Try.func73, by decide, rfl⟩
theorem pBCloneO : PSound Try.prog 73 sBCloneO := by
  refine psound (T := tab) (S := (spOf [])) (keep := k73) (by kernel_rfl) tabOk spNil (by kernel_rfl) Try.func73 (by kernel_rfl) (by decide) fun xs hg hp => ?_
  obtain ⟨xs, ⟨⟩⟩ := xs
  obtain ⟨⟨hl, -⟩, -⟩ := hg
  change List Int at xs
  clear hl
  change xs.length ≤ 1000000 at hp
  show vfun tab _ k73 Try.f73 [.sl (.int .u8) xs] [] _
  refine Ev.out ?_
  repeat' (first | ((with_reducible refine Ev.mk ?_); conv => whnf) | (with_reducible refine And.intro ?_ ?_) | (intro h))
  all_goals (try simp only [decide_eq_true_eq, decide_eq_false_iff_not, beq_iff_eq, bne_iff_ne, beq_eq_false_iff_ne, bne_eq_false_iff_eq, Int.toNat_natCast, ge_iff_le, gt_iff_lt, Bool.not_eq_true', Bool.not_eq_false', Int.not_lt, Int.not_le, ne_eq] at *)
  all_goals (try dsimp only [Ty.den, Ty.dflt, BT] at *)
  all_goals (try simp only [eq4, ne4, eq3, ne3, eq2, ne2, Prod.eta, List.length_cons, List.length_nil, List.length_append, Nat.zero_add] at *)
  all_goals (try simp (disch := omega) only [wrap64] at *)
  all_goals try first | exact leafDraw (by kernel_rfl) | exact Leaf.mk trivial | (refine Leaf.mk ?_; omega) | (refine Leaf.mk ?_; unfold maxLen; omega)
  · refine Leaf.mk (ret1 (show ([] : List Int) = xs from ?_))
    exact (List.eq_nil_of_length_eq_zero h).symm
  · exact Leaf.mk (ret1 rfl)
def behN (xs : List Int) : Nat → Nat
  | 0 => 0
  | n + 1 => if xs.getD n 0 = 255 then behN xs n else n + 1
def behL (xs : List Int) : List Int × Bool := match behN xs xs.length with
  | 0 => ([], false)
  | n + 1 => (xs.take n ++ [xs.getD n 0 + 1], true)
theorem take_set (xs : List Int) {m : Nat} (h : m < xs.length) (v : Int) : (xs.take (m + 1)).set m v = xs.take m ++ [v] := by
  rw [List.take_succ_eq_append_getElem h, List.set_append_right _ _ (by simp; omega)]
  simp [List.length_take, Nat.min_eq_left (Nat.le_of_lt h)]
theorem getD_take (xs : List Int) {m n : Nat} (h : m < n) : (xs.take n).getD m 0 = xs.getD m 0 := by
  simp only [List.getD_eq_getElem?_getD, List.getElem?_take, if_pos h]
def sBehind : PSpec := ⟨[.d BT], [⟨false, [.d BT]⟩, ⟨false, [.d .bool]⟩], fun x => x.1.length ≤ 100000, fun x => (((behL x.1).1, ()), ((behL x.1).2, ()), ())⟩
theorem fBehind : FnOk Try.prog 60 := ⟨_, Try.func60, by decide, rfl⟩
theorem pBehind : PSound Try.prog 60 sBehind := by
  refine psound (T := tab) (S := (spOf [(73, sBCloneO.spec (lsOf []))])) (keep := k60) (by kernel_rfl) tabOk (spCons (pOk pBCloneO fBCloneO (by decide) lsNil) spNil) (by kernel_rfl) Try.func60 (by kernel_rfl) (by decide) fun xs hg hp => ?_
  obtain ⟨xs, ⟨⟩⟩ := xs
  obtain ⟨⟨hl, hx⟩, -⟩ := hg
  change List Int at xs
  clear hl
  change xs.length ≤ 100000 at hp
  change ∀ x ∈ xs, Eng.Good (.int .u8) x at hx
  show vfun tab _ k60 Try.f60 [.sl (.int .u8) xs] [] _
  refine Ev.out ?_
  repeat' (first | ((with_reducible refine Ev.mk ?_); conv => whnf) | (with_reducible refine And.intro ?_ ?_) | (intro h))
  all_goals (try simp only [decide_eq_true_eq, decide_eq_false_iff_not, beq_iff_eq, bne_iff_ne, beq_eq_false_iff_ne, bne_eq_false_iff_eq, Int.toNat_natCast, ge_iff_le, gt_iff_lt, Bool.not_eq_true', Bool.not_eq_false', Int.not_lt, Int.not_le, ne_eq] at *)
  all_goals (try dsimp only [Ty.den, Ty.dflt, BT, sBCloneO] at *)
  all_goals (try simp only [eq4, ne4, eq3, ne3, eq2, ne2, Prod.eta, List.length_cons, List.length_nil, List.length_append, Nat.zero_add] at *)
  all_goals (try simp (disch := omega) only [wrap64] at *)
  all_goals try first | exact leafDraw (by kernel_rfl) | exact Leaf.mk trivial | (refine Leaf.mk ?_; omega) | (refine Leaf.mk ?_; unfold maxLen; omega)
  refine LoopVC.on (fun _ => []) (fun n : Nat => [(0, .arr 5 (.int .u8) (xs.take n))]) (fun n => n ≤ xs.length ∧ behN xs xs.length = behN xs n) (fun n => n) xs.length ?_ ⟨Nat.le_refl _, rfl⟩ ?_
  · rw [List.take_length]; rfl
  intro n ⟨hn, hb⟩
  have hln : (xs.take n).length = n := by rw [List.length_take]; omega
  repeat' (first | ((with_reducible refine Ev.mk ?_); conv => whnf) | (with_reducible refine And.intro ?_ ?_) | (intro h))
  all_goals (try simp only [decide_eq_true_eq, decide_eq_false_iff_not, beq_iff_eq, bne_iff_ne, beq_eq_false_iff_ne, bne_eq_false_iff_eq, Int.toNat_natCast, ge_iff_le, gt_iff_lt, Bool.not_eq_true', Bool.not_eq_false', Int.not_lt, Int.not_le, ne_eq] at *)
  all_goals (try dsimp only [Ty.den, Ty.dflt, BT] at *)
  all_goals (try simp only [eq4, ne4, eq3, ne3, eq2, ne2, Prod.eta, List.length_cons, List.length_nil, List.length_append, Nat.zero_add] at *)
  all_goals (try simp (disch := omega) only [wrap64] at *)
  all_goals (try simp only [hln] at *)
  all_goals try first | exact leafDraw (by kernel_rfl) | exact Leaf.mk trivial | (refine Leaf.mk ?_; omega) | (refine Leaf.mk ?_; unfold maxLen; omega)
  · obtain ⟨m, rfl⟩ : ∃ m, n = m + 1 := ⟨n - 1, by omega⟩
    have e : (((m + 1 : Nat) : Int) - 1).toNat = m := by omega
    rw [e, getD_take xs (by omega)] at h
    refine Leaf.mk ⟨m, ?_, ⟨by omega, ?_⟩, by omega⟩
    · rw [e, List.take_take, show min m (m + 1) = m by omega]; rfl
    · rw [hb, behN, if_pos h]
  · obtain ⟨m, rfl⟩ : ∃ m, n = m + 1 := ⟨n - 1, by omega⟩
    have e : (((m + 1 : Nat) : Int) - 1).toNat = m := by omega
    rw [e, getD_take xs (by omega)] at h
    have hm := byte_at hx (i := m) (by omega)
    rw [behN, if_neg h] at hb
    have hB : behL xs = (xs.take m ++ [xs.getD m 0 + 1], true) := by unfold behL; rw [hb]
    rw [e, getD_take xs (by omega), take_set xs (by omega), wrapU8, show (xs.getD m 0 + 1) % 256 = xs.getD m 0 + 1 by omega]
    refine Leaf.mk (ret2 ?_ ?_)
    · show _ = (behL xs).1
      rw [hB]
    · show _ = (behL xs).2
      rw [hB]
  · obtain rfl : n = 0 := by omega
    have hB : behL xs = ([], false) := by unfold behL; rw [hb]; rfl
    refine Leaf.mk (ret2 ?_ ?_)
    · show _ = (behL xs).1
      rw [hB]
    · show _ = (behL xs).2
      rw [hB]
end Go.Proofs.Ytbobjiaggngbmaa

set_option linter.unusedVariables false
set_option linter.unusedSimpArgs false
namespace Go.Proofs.Ytbobjiaggngbmaa
open Go.Eng
def txt : List Int → List Int → Nat → List Int × Int × Int
  | [], _, _ => ([], 0, 3)
  | c :: r, acc, p => if c = 0 then match r with
      | [] => ([], 0, 3)
      | d :: t => if d = 1 then (acc, ((p + 2 : Nat) : Int), 0) else if d = 255 then txt t (acc ++ [0]) (p + 2) else ([], 0, 4)
    else txt r (acc ++ [c]) (p + 1)
theorem txt_ne {c : Int} (h : ¬ c = 0) (r acc : List Int) (p : Nat) : txt (c :: r) acc p = txt r (acc ++ [c]) (p + 1) := by
  conv => lhs; rw [txt.eq_def]
  exact if_neg h
theorem txt_end {c : Int} (h : c = 0) (acc : List Int) (p : Nat) : txt [c] acc p = ([], 0, 3) := by
  conv => lhs; rw [txt.eq_def]
  exact if_pos h
theorem txt_esc {c : Int} (h : c = 0) (d : Int) (t acc : List Int) (p : Nat) : txt (c :: d :: t) acc p = if d = 1 then (acc, ((p + 2 : Nat) : Int), 0) else if d = 255 then txt t (acc ++ [0]) (p + 2) else ([], 0, 4) := by
  conv => lhs; rw [txt.eq_def]
  exact if_pos h
theorem byte_mem {xs : List Int} (hx : ∀ x ∈ xs, Eng.Good (.int .u8) x) {x : Int} (h : x ∈ xs) : 0 ≤ x ∧ x ≤ 255 := bdu8 (hx x h)
theorem byte_eq {c : Int} (h : 0 ≤ c ∧ c ≤ 255) : (UInt8.ofNat c.toNat == Nat.toUInt8 0) = decide (c = 0) := by
  obtain ⟨n, rfl⟩ := Int.eq_ofNat_of_zero_le h.1
  have h2 : n ≤ 255 := by omega
  clear h
  have : ∀ m : Fin 256, (UInt8.ofNat ((m.val : Nat) : Int).toNat == Nat.toUInt8 0) = decide (((m.val : Nat) : Int) = 0) := by decide +kernel
  exact this ⟨n, by omega⟩
theorem idx_out : ∀ (r : List Int), (∀ x ∈ r, 0 ≤ x ∧ x ≤ 255) →
    (Lib.indexByte (strOfBytes r) (Nat.toUInt8 0) = -1 ∧ ∀ acc p, txt r acc p = ([], 0, 3)) ∨
    (∃ k : Nat, Lib.indexByte (strOfBytes r) (Nat.toUInt8 0) = k ∧ k < r.length ∧ r.getD k 0 = 0 ∧ ∀ acc p, txt r acc p = txt (r.drop k) (acc ++ r.take k) (p + k))
  | [], _ => .inl ⟨rfl, fun acc p => rfl⟩
  | c :: r, h => by
    have hc := byte_eq (h c (by simp))
    have ih := idx_out r (fun x hx => h x (by simp [hx]))
    have e : Lib.indexByte (strOfBytes (c :: r)) (Nat.toUInt8 0) = if c = 0 then 0 else if Lib.indexByte (strOfBytes r) (Nat.toUInt8 0) == -1 then -1 else Lib.indexByte (strOfBytes r) (Nat.toUInt8 0) + 1 := by
      show (if (UInt8.ofNat c.toNat == Nat.toUInt8 0) = true then _ else _) = _
      rw [hc]
      simp only [decide_eq_true_eq]
      rfl
    rw [e]
    by_cases h0 : c = 0
    · rw [if_pos h0]
      exact .inr ⟨0, rfl, by simp, h0, fun acc p => by simp⟩
    · rw [if_neg h0]
      rcases ih with ⟨h1, h2⟩ | ⟨k, h1, h2, h3, h4⟩
      · rw [h1]
        exact .inl ⟨rfl, fun acc p => by rw [txt_ne h0, h2]⟩
      · rw [h1]
        refine .inr ⟨k + 1, ?_, by simpa using h2, by simpa using h3, fun acc p => ?_⟩
        · rw [if_neg (by simp)]; first | rfl | omega
        · rw [txt_ne h0, h4]
          simp only [List.drop_succ_cons, List.take_succ_cons, List.append_assoc, List.singleton_append]
          rw [show p + 1 + k = p + (k + 1) by omega]
theorem tn2 (i k : Nat) : ((i : Int) + (k : Int)).toNat = i + k := by omega
theorem tn3 (i k : Nat) : ((i : Int) + ((k : Int) + 2) - 1).toNat = i + k + 1 := by omega
theorem idx_xs {xs : List Int} (hx : ∀ x ∈ xs, 0 ≤ x ∧ x ≤ 255) {i : Nat} (hi : i ≤ xs.length) :
    (Lib.indexByte (strOfBytes (xs.drop i)) (Nat.toUInt8 0) = -1 ∧ ∀ acc p, txt (xs.drop i) acc p = ([], 0, 3)) ∨
    (∃ k : Nat, Lib.indexByte (strOfBytes (xs.drop i)) (Nat.toUInt8 0) = k ∧ i + k < xs.length ∧ xs.getD (i + k) 0 = 0 ∧ ((xs.take (i + k)).drop i).length = k ∧ ∀ acc p, txt (xs.drop i) acc p = txt (xs.drop (i + k)) (acc ++ (xs.take (i + k)).drop i) (p + k)) := by
  rcases idx_out (xs.drop i) (fun x h => hx x (List.mem_of_mem_drop h)) with h | ⟨k, h1, h2, h3, h4⟩
  · exact .inl h
  · rw [List.length_drop] at h2
    refine .inr ⟨k, h1, by omega, ?_, by rw [List.length_drop, List.length_take]; omega, fun acc p => ?_⟩
    · rw [List.getD_eq_getElem?_getD, List.getElem?_drop] at h3
      rw [List.getD_eq_getElem?_getD]; exact h3
    · rw [h4, List.drop_drop, List.drop_take, Nat.add_sub_cancel_left]
def getText (xs : List Int) : List UInt8 × Int × Int := (strOfBytes (txt xs [] 0).1, (txt xs [] 0).2.1, (txt xs [] 0).2.2)
def sGetText : PSpec := ⟨[.d BT], [⟨false, [.d .str]⟩, ⟨false, [.d (.int .i64)]⟩, ⟨false, [.d (.int .i64)]⟩], fun x => x.1.length ≤ 100000, fun x => (((getText x.1).1, ()), ((getText x.1).2.1, ()), ((getText x.1).2.2, ()), ())⟩
theorem fGetText : FnOk Try.prog 76 := ⟨_, Try.func76, by decide, rfl⟩
theorem pGetText : PSound Try.prog 76 sGetText := by
  refine psound (T := tab) (S := (spOf [(85, sIndexByte.spec (lsOf []))])) (keep := k76) (by kernel_rfl) tabOk (spCons (pOk pIndexByte fIndexByte (by decide) lsNil) spNil) (by kernel_rfl) Try.func76 (by kernel_rfl) (by decide) fun xs hg hp => ?_
  obtain ⟨xs, ⟨⟩⟩ := xs
  obtain ⟨⟨hl, hx⟩, -⟩ := hg
  change List Int at xs
  clear hl
  change xs.length ≤ 100000 at hp
  change ∀ x ∈ xs, Eng.Good (.int .u8) x at hx
  show vfun tab _ k76 Try.f76 [.sl (.int .u8) xs] [] _
  refine Ev.out ?_
  repeat' (first | ((with_reducible refine Ev.mk ?_); conv => whnf) | (with_reducible refine And.intro ?_ ?_) | (intro h))
  all_goals (try simp only [decide_eq_true_eq, decide_eq_false_iff_not, beq_iff_eq, bne_iff_ne, beq_eq_false_iff_ne, bne_eq_false_iff_eq, Int.toNat_natCast, ge_iff_le, gt_iff_lt, Bool.not_eq_true', Bool.not_eq_false', Int.not_lt, Int.not_le, ne_eq] at *)
  all_goals (try dsimp only [Ty.den, Ty.dflt, BT] at *)
  all_goals (try simp only [eq4, ne4, eq3, ne3, eq2, ne2, Prod.eta, List.length_cons, List.length_nil, List.length_append, Nat.zero_add] at *)
  all_goals (try simp (disch := omega) only [wrap64] at *)
  all_goals try first | exact leafDraw (by kernel_rfl) | exact Leaf.mk trivial | (refine Leaf.mk ?_; omega) | (refine Leaf.mk ?_; unfold maxLen; omega)
  refine LoopVC.weak [(.slot 5, .nil 5 (.int .u8))] (fun a : Nat × List Int => [(6, .i .i64 a.1)]) (fun a => [(0, .arr 5 (.int .u8) a.2)]) (fun a => a.1 ≤ xs.length ∧ a.2.length ≤ a.1 ∧ txt xs [] 0 = txt (xs.drop a.1) a.2 a.1) (fun a => xs.length - a.1) (0, []) (Ev.mk ?_)
  (conv => whnf)
  refine ⟨Leaf.mk ?_, Leaf.mk ?_, ?_⟩
  · rfl
  · exact ⟨by omega, by simp, rfl⟩
  intro ⟨i, acc⟩ ⟨hi, ha, ht⟩
  dsimp only at hi ha ht
  have hk := idx_xs (fun x h => byte_mem hx h) hi
  repeat' (first | ((with_reducible refine Ev.mk ?_); conv => whnf) | (with_reducible refine And.intro ?_ ?_) | (intro h))
  all_goals (try dsimp only [sIndexByte] at *)
  all_goals (try simp only [Int.reduceToNat, Int.toNat_natCast, List.take_length] at *)
  all_goals (rcases hk with ⟨k1, k2⟩ | ⟨k, k1, k2, k3, k5, k4⟩ <;> simp only [k1] at *)
  all_goals (try simp only [decide_eq_true_eq, decide_eq_false_iff_not, beq_iff_eq, bne_iff_ne, beq_eq_false_iff_ne, bne_eq_false_iff_eq, Int.toNat_natCast, ge_iff_le, gt_iff_lt, Bool.not_eq_true', Bool.not_eq_false', Int.not_lt, Int.not_le, ne_eq] at *)
  all_goals (try dsimp only [Ty.den, Ty.dflt, BT, sIndexByte] at *)
  all_goals (try simp only [eq4, ne4, eq3, ne3, eq2, ne2, Prod.eta, List.length_cons, List.length_nil, List.length_append, Nat.zero_add] at *)
  all_goals (try simp (disch := omega) only [wrap64] at *)
  all_goals (try simp only [tn2, tn3] at *)
  all_goals try first | exact leafDraw (by kernel_rfl) | exact Leaf.mk trivial | (refine Leaf.mk ?_; omega) | (refine Leaf.mk ?_; unfold maxLen; omega)
  · rw [k2] at ht
    refine Leaf.mk (ret3 ?_ ?_ ?_) <;> (dsimp only [getText]; rw [ht]) <;> rfl
  · rw [k4, drop_at 0 (by omega), List.drop_eq_nil_of_le (by omega), txt_end k3] at ht
    refine Leaf.mk (ret3 ?_ ?_ ?_) <;> (dsimp only [getText]; rw [ht]) <;> rfl
  all_goals (try (refine Leaf.mk ?_; rw [k5]; first | omega | (unfold maxLen; omega)))
  · rw [k4, drop_at 0 (by omega), drop_at 0 (show i + k + 1 < xs.length by omega), txt_esc k3, if_pos h] at ht
    refine Leaf.mk (ret3 ?_ ?_ ?_) <;> (dsimp only [getText]; rw [ht]) <;> first | rfl | (dsimp only; omega)
  · rename_i hn
    rw [k4, drop_at 0 (by omega), drop_at 0 (show i + k + 1 < xs.length by omega), txt_esc k3, if_neg hn, if_pos h] at ht
    refine Leaf.mk ⟨(i + k + 2, acc ++ (xs.take (i + k)).drop i ++ [0]), ?_, ⟨by dsimp only; omega, by dsimp only; simp only [List.length_append, k5, List.length_singleton]; omega, ht⟩, by dsimp only; omega⟩
    rw [show (i : Int) + ((k : Int) + 2) = ((i + k + 2 : Nat) : Int) by omega]; rfl
  · rename_i hn
    rw [k4, drop_at 0 (by omega), drop_at 0 (show i + k + 1 < xs.length by omega), txt_esc k3, if_neg hn, if_neg h] at ht
    refine Leaf.mk (ret3 ?_ ?_ ?_) <;> (dsimp only [getText]; rw [ht]) <;> rfl
  all_goals (rw [List.drop_eq_nil_of_le (by omega)] at ht; refine Leaf.mk (ret3 ?_ ?_ ?_) <;> (dsimp only [getText]; rw [ht]) <;> rfl)
end Go.Proofs.Ytbobjiaggngbmaa

set_option linter.unusedVariables false
set_option linter.unusedSimpArgs false
namespace Go.Proofs.Ytbobjiaggngbmaa
open Go.Eng
abbrev RP : List RK := [.d BT, .d (.int .i64)]
def sNew : NSpec := ⟨[.d BT], RP, fun x => x.1.length ≤ 100000, fun x => (x.1, 0, ())⟩
theorem fNew : FnOk Try.prog 50 := ⟨_, Try.func50, by decide, rfl⟩
theorem pNew : NSound Try.prog 50 sNew := by
  refine nsound (T := tab) (S := (spOf [(73, sBClone.spec (lsOf []))])) (keep := k50) (by kernel_rfl) tabOk (spCons (pOk pBClone fBClone (by decide) lsNil) spNil) (by kernel_rfl) Try.func50 rfl (by kernel_rfl) (by decide) fun xs hg hp => ?_
  obtain ⟨xs, ⟨⟩⟩ := xs
  change List Int at xs
  change xs.length ≤ 100000 at hp
  show vfun tab _ k50 Try.f50 [.sl (.int .u8) xs] [] _
  refine Ev.out ?_
  repeat' (first | ((with_reducible refine Ev.mk ?_); conv => whnf) | (with_reducible refine And.intro ?_ ?_) | (intro h))
  all_goals (try simp only [decide_eq_true_eq, decide_eq_false_iff_not, beq_iff_eq, bne_iff_ne, beq_eq_false_iff_ne, bne_eq_false_iff_eq, Int.toNat_natCast, ge_iff_le, gt_iff_lt, Bool.not_eq_true', Bool.not_eq_false', Int.not_lt, Int.not_le, ne_eq] at *)
  all_goals (try dsimp only [Ty.den, Ty.dflt, BT, sBClone] at *)
  all_goals (try simp only [eq4, ne4, eq3, ne3, eq2, ne2, Prod.eta, List.length_cons, List.length_nil, List.length_append, Nat.zero_add] at *)
  all_goals (try simp (disch := omega) only [wrap64] at *)
  all_goals try first | exact leafDraw (by kernel_rfl) | exact Leaf.mk trivial | (refine Leaf.mk ?_; omega) | (refine Leaf.mk ?_; unfold maxLen; omega)
  · exact Leaf.mk rfl
def sState : MSpec := ⟨[.m RP], [⟨false, [.d (.int .i64)]⟩], fun _ => True, fun x => ((x.1.2.1, ()), x.1, ())⟩
theorem fState : FnOk Try.prog 74 := ⟨_, Try.func74, by decide, rfl⟩
theorem pState : SpecOk Try.prog 74 sState.spec := by
  refine mOk (T := tab) (S := (spOf [])) (keep := k74m) tabOk spNil (by kernel_rfl) Try.func74 (by kernel_rfl) (by kernel_rfl) (by decide) fun xs hg hp => ?_
  obtain ⟨⟨b, e, ⟨⟩⟩, ⟨⟩⟩ := xs
  change List Int at b
  change Int at e
  show vfunM tab _ k74m Try.f74 [.ptr 0 0] [(0, .box [.sl (.int .u8) b, .i .i64 e])] _
  refine Ev.out ?_
  repeat' (first | ((with_reducible refine Ev.mk ?_); conv => whnf) | (with_reducible refine And.intro ?_ ?_) | (intro h))
  all_goals exact Leaf.mk rfl
theorem txt_bd : ∀ (n : Nat) (xs acc : List Int) (p : Nat), xs.length ≤ n → 0 ≤ (txt xs acc p).2.1 ∧ (txt xs acc p).2.1 ≤ ((p + xs.length : Nat) : Int)
  | _, [], acc, p, _ => ⟨Int.le_refl _, by show (0 : Int) ≤ _; omega⟩
  | 0, _ :: _, _, _, h => by simp at h
  | n + 1, c :: r, acc, p, h => by
    simp only [List.length_cons] at h
    by_cases hc : c = 0
    · cases r with
      | nil => rw [txt_end hc]; exact ⟨Int.le_refl _, by show (0 : Int) ≤ _; omega⟩
      | cons d t =>
        simp only [List.length_cons] at h
        rw [txt_esc hc]
        split
        · simp only [List.length_cons]; omega
        · split
          · have := txt_bd n t (acc ++ [0]) (p + 2) (by omega)
            simp only [List.length_cons]; omega
          · exact ⟨Int.le_refl _, by show (0 : Int) ≤ _; omega⟩
    · rw [txt_ne hc]
      have := txt_bd n r (acc ++ [c]) (p + 1) (by omega)
      simp only [List.length_cons]; omega
theorem getText_bd (b : List Int) : 0 ≤ (getText b).2.1 ∧ (getText b).2.1 ≤ (b.length : Int) := by
  have := txt_bd b.length b [] 0 (Nat.le_refl _)
  simpa [getText] using this
theorem putR {α : Type} {u v : α × List Int × Int} (h : u = v) : (some ((u.1, ()), (u.2.1, u.2.2, ()), ()) : Option ((α × Unit) × (List Int × Int × Unit) × Unit)) = some ((v.1, ()), (v.2.1, v.2.2, ()), ()) := by rw [h]
theorem getSmall_bd {b : List Int} (hx : ∀ x ∈ b, Eng.Good (.int .u8) x) : (0 ≤ (getSmall b).2.1 ∧ (getSmall b).2.1 ≤ (b.length : Int)) ∧ 0 ≤ (getSmall b).1 := by
  have h0 := byte0 hx 0
  have hn := numB_bd ((b.take (b.getD 0 0 + 1).toNat).drop 1)
  unfold getSmall
  split
  · simp
  · split
    · simp
    · split
      · simp
      · split
        · simp
        · refine ⟨⟨?_, ?_⟩, hn.1⟩ <;> dsimp only <;> omega
def rdText (b : List Int) (e most : Int) : List UInt8 × List Int × Int :=
  if ¬ e = 0 then ([], b, e) else if ¬ (getText b).2.2 = 0 then ([], b, (getText b).2.2)
  else if (if 0 < most then most else 0) < ((getText b).1.length : Int) then ([], b, 5) else ((getText b).1, b.drop (getText b).2.1.toNat, 0)
def sText : MSpec := ⟨[.m RP, .d (.int .i64)], [⟨false, [.d .str]⟩], fun x => x.1.1.length ≤ 100000, fun x => (((rdText x.1.1 x.1.2.1 x.2.1).1, ()), ((rdText x.1.1 x.1.2.1 x.2.1).2.1, (rdText x.1.1 x.1.2.1 x.2.1).2.2, ()), ())⟩
theorem fText : FnOk Try.prog 52 := ⟨_, Try.func52, by decide, rfl⟩
theorem pText : SpecOk Try.prog 52 sText.spec := by
  refine mOk (T := tab) (S := (spOf [(74, sState.spec), (76, sGetText.spec (lsOf []))])) (keep := k52m) tabOk (spCons (.inl ⟨pState, fState⟩) (spCons (pOk pGetText fGetText (by decide) lsNil) spNil)) (by kernel_rfl) Try.func52 (by kernel_rfl) (by kernel_rfl) (by decide) fun xs hg hp => ?_
  obtain ⟨⟨b, e, ⟨⟩⟩, most, ⟨⟩⟩ := xs
  change List Int at b
  change Int at e
  change Int at most
  change b.length ≤ 100000 at hp
  show vfunM tab _ k52m Try.f52 [.ptr 0 0, .i .i64 most] [(0, .box [.sl (.int .u8) b, .i .i64 e])] _
  refine Ev.out ?_
  repeat' (first | ((with_reducible refine Ev.mk ?_); conv => whnf) | (with_reducible refine And.intro ?_ ?_) | (intro h))
  all_goals (try simp only [decide_eq_true_eq, decide_eq_false_iff_not, beq_iff_eq, bne_iff_ne, beq_eq_false_iff_ne, bne_eq_false_iff_eq, Int.toNat_natCast, ge_iff_le, gt_iff_lt, Bool.not_eq_true', Bool.not_eq_false', Int.not_lt, Int.not_le, ne_eq] at *)
  all_goals (try dsimp only [Ty.den, Ty.dflt, BT, sState, sGetText] at *)
  all_goals (try simp only [eq4, ne4, eq3, ne3, eq2, ne2, Prod.eta, List.length_cons, List.length_nil, List.length_append, Nat.zero_add] at *)
  all_goals (try simp (disch := omega) only [wrap64] at *)
  all_goals have hb := getText_bd b
  all_goals try first | exact leafDraw (by kernel_rfl) | exact Leaf.mk trivial | (refine Leaf.mk ?_; omega) | (refine Leaf.mk ?_; unfold maxLen; omega)
  · refine Leaf.mk (putR (u := ([], b, e)) (v := rdText b e most) ?_)
    rw [rdText, if_pos h]
  · rename_i h1 h2 h3
    refine Leaf.mk (putR (u := ([], b, 5)) (v := rdText b e most) ?_)
    rw [rdText, if_neg (fun hh => hh h1), if_neg (fun hh => hh h2), if_pos h3]
  · rename_i h1 h2 h3
    rw [List.take_length]
    refine Leaf.mk (putR (u := ((getText b).1, b.drop (getText b).2.1.toNat, e)) (v := rdText b e most) ?_)
    rw [rdText, if_neg (fun hh => hh h1), if_neg (fun hh => hh h2), if_neg (by omega), h1]
  · rename_i h1 h2
    refine Leaf.mk (putR (u := ([], b, (getText b).2.2)) (v := rdText b e most) ?_)
    rw [rdText, if_neg (fun hh => hh h1), if_pos h2]
def rdSmall (b : List Int) (e : Int) : Int × List Int × Int :=
  if ¬ e = 0 then (0, b, e) else if ¬ (getSmall b).2.2 = 0 then (0, b, (getSmall b).2.2)
  else if 1099511627776 < (getSmall b).1 then (0, b, 9) else ((getSmall b).1, b.drop (getSmall b).2.1.toNat, 0)
def sSmall : MSpec := ⟨[.m RP], [⟨false, [.d (.int .i64)]⟩], fun x => x.1.1.length ≤ 100000, fun x => (((rdSmall x.1.1 x.1.2.1).1, ()), ((rdSmall x.1.1 x.1.2.1).2.1, (rdSmall x.1.1 x.1.2.1).2.2, ()), ())⟩
theorem fSmall : FnOk Try.prog 51 := ⟨_, Try.func51, by decide, rfl⟩
theorem pSmall : SpecOk Try.prog 51 sSmall.spec := by
  refine mOk (T := tab) (S := (spOf [(74, sState.spec), (75, sGetSmall.spec (lsOf []))])) (keep := k51m) tabOk (spCons (.inl ⟨pState, fState⟩) (spCons (pOk pGetSmall fGetSmall (by decide) lsNil) spNil)) (by kernel_rfl) Try.func51 (by kernel_rfl) (by kernel_rfl) (by decide) fun xs hg hp => ?_
  obtain ⟨⟨b, e, ⟨⟩⟩, ⟨⟩⟩ := xs
  change List Int at b
  change Int at e
  change b.length ≤ 100000 at hp
  obtain ⟨⟨⟨hl, hx⟩, -⟩, -⟩ := hg
  clear hl
  change ∀ x ∈ b, Eng.Good (.int .u8) x at hx
  have hb0 := getSmall_bd hx
  clear hx
  show vfunM tab _ k51m Try.f51 [.ptr 0 0] [(0, .box [.sl (.int .u8) b, .i .i64 e])] _
  refine Ev.out ?_
  repeat' (first | ((with_reducible refine Ev.mk ?_); conv => whnf) | (with_reducible refine And.intro ?_ ?_) | (intro h))
  all_goals (try simp only [decide_eq_true_eq, decide_eq_false_iff_not, beq_iff_eq, bne_iff_ne, beq_eq_false_iff_ne, bne_eq_false_iff_eq, Int.toNat_natCast, ge_iff_le, gt_iff_lt, Bool.not_eq_true', Bool.not_eq_false', Int.not_lt, Int.not_le, ne_eq] at *)
  all_goals (try dsimp only [Ty.den, Ty.dflt, BT, sState, sGetSmall] at *)
  all_goals (try simp only [eq4, ne4, eq3, ne3, eq2, ne2, Prod.eta, List.length_cons, List.length_nil, List.length_append, Nat.zero_add] at *)
  all_goals (try simp (disch := omega) only [wrap64] at *)
  all_goals try first | exact leafDraw (by kernel_rfl) | exact Leaf.mk trivial | (refine Leaf.mk ?_; omega) | (refine Leaf.mk ?_; unfold maxLen; omega)
  · refine Leaf.mk (putR (u := (0, b, e)) (v := rdSmall b e) ?_)
    rw [rdSmall, if_pos h]
  · rename_i h1 h2 h3
    refine Leaf.mk (putR (u := (0, b, 9)) (v := rdSmall b e) ?_)
    rw [rdSmall, if_neg (fun hh => hh h1), if_neg (fun hh => hh h2), if_pos h3]
  · rename_i h1 h2 h3
    rw [List.take_length]
    refine Leaf.mk (putR (u := ((getSmall b).1, b.drop (getSmall b).2.1.toNat, e)) (v := rdSmall b e) ?_)
    rw [rdSmall, if_neg (fun hh => hh h1), if_neg (fun hh => hh h2), if_neg (by omega), h1]
  · rename_i h1 h2
    refine Leaf.mk (putR (u := (0, b, (getSmall b).2.2)) (v := rdSmall b e) ?_)
    rw [rdSmall, if_neg (fun hh => hh h1), if_pos h2]
end Go.Proofs.Ytbobjiaggngbmaa

set_option linter.unusedVariables false
set_option linter.unusedSimpArgs false
namespace Go.Proofs.Ytbobjiaggngbmaa
open Go.Eng
def isB (xs : List Int) : Prop := ∀ x ∈ xs, 0 ≤ x ∧ x ≤ 255
theorem isB_good {xs : List Int} (h : ∀ x ∈ xs, Eng.Good (.int .u8) x) : isB xs := fun x hx => byte_mem h hx
theorem isB_append {xs ys : List Int} (h : isB xs) (k : isB ys) : isB (xs ++ ys) := fun x hx => (List.mem_append.1 hx).elim (h x) (k x)
theorem isB_str (s : List UInt8) : isB (bytesOfStr s) := fun x hx => by
  obtain ⟨c, _, rfl⟩ := List.mem_map.1 hx
  have := c.toNat_lt
  omega
theorem isB_put (s : List UInt8) : isB (putText s) := fun x hx => by
  unfold putText putB at hx
  rcases List.mem_append.1 hx with h | h
  · obtain ⟨c, hc, h⟩ := List.mem_flatMap.1 h
    have := isB_str s c hc
    unfold escI at h
    split at h <;> simp at h <;> omega
  · simp at h; omega
theorem isB_lay : ∀ (k : Nat) (n : Int), isB (layB n k)
  | 0, n => fun x hx => by simp [layB] at hx
  | k + 1, n => by
    rw [layB]
    refine isB_append (isB_lay k _) fun x hx => ?_
    simp at hx; omega
theorem isB_small (n : Int) : isB (putSmall n) := fun x hx => by
  unfold putSmall at hx
  rcases List.mem_cons.1 hx with h | h
  · have := widthN_le 8 n; omega
  · exact isB_lay _ _ x h
theorem str_bytes (s : List UInt8) : strOfBytes (bytesOfStr s) = s := by
  unfold strOfBytes bytesOfStr
  rw [List.map_map]
  conv => rhs; rw [← List.map_id s]
  refine List.map_congr_left fun c _ => ?_
  simp
theorem putB_cons (x : Int) (xs : List Int) : putB (x :: xs) = escI x ++ putB xs := by simp [putB]
end Go.Proofs.Ytbobjiaggngbmaa

set_option linter.unusedVariables false
set_option linter.unusedSimpArgs false
namespace Go.Proofs.Ytbobjiaggngbmaa
open Go.Eng
theorem p8 : (256 : Int) ^ 8 = 18446744073709551616 := by decide
theorem widthN_zero : ∀ f, widthN f 0 = 0
  | 0 => rfl
  | f + 1 => by rw [widthN, if_neg (by omega)]
theorem widthN_hi : ∀ (f : Nat) (n : Int), 0 ≤ n → n < 256 ^ f → n < 256 ^ (widthN f n)
  | 0, n, h1, h2 => h2
  | f + 1, n, h1, h2 => by
    rw [Int.pow_succ] at h2
    rw [widthN]
    split
    · have := widthN_hi f (n / 256) (by omega) (Int.ediv_lt_of_lt_mul (by decide) h2)
      rw [Int.pow_succ]; omega
    · rw [Int.pow_zero]; omega
theorem widthN_lo : ∀ (f : Nat) (n : Int), 0 < n → n < 256 ^ f → ∃ w, widthN f n = w + 1 ∧ 256 ^ w ≤ n
  | 0, n, h1, h2 => by rw [Int.pow_zero] at h2; omega
  | f + 1, n, h1, h2 => by
    rw [Int.pow_succ] at h2
    rw [widthN, if_pos h1]
    refine ⟨_, rfl, ?_⟩
    by_cases h0 : n / 256 = 0
    · rw [h0, widthN_zero, Int.pow_zero]; omega
    · obtain ⟨w, hw, hl⟩ := widthN_lo f (n / 256) (by omega) (Int.ediv_lt_of_lt_mul (by decide) h2)
      rw [hw, Int.pow_succ]; omega
theorem txt_put (b : List Int) : ∀ (xs acc : List Int) (p : Nat), txt (putB xs ++ b) acc p = (acc ++ xs, ((p + (putB xs).length : Nat) : Int), 0)
  | [], acc, p => by
    show txt (0 :: 1 :: b) acc p = _
    rw [txt_esc rfl, if_pos rfl, List.append_nil]; rfl
  | x :: xs, acc, p => by
    rw [putB_cons, List.append_assoc]
    unfold escI
    by_cases h : x = 0
    · rw [if_pos h]
      show txt (0 :: 255 :: (putB xs ++ b)) acc p = _
      rw [txt_esc rfl, if_neg (by omega), if_pos rfl, txt_put b xs]
      subst h
      simp only [List.append_assoc, List.cons_append, List.nil_append, List.length_cons]
      congr 3; omega
    · rw [if_neg h]
      show txt (x :: (putB xs ++ b)) acc p = _
      rw [txt_ne h, txt_put b xs]
      simp only [List.append_assoc, List.cons_append, List.nil_append, List.length_cons]
      congr 3; omega
theorem getText_put (s : List UInt8) (b : List Int) : getText (putText s ++ b) = (s, (((putText s).length : Nat) : Int), 0) := by
  unfold getText putText
  rw [txt_put]
  simp [str_bytes]
theorem numB_lay : ∀ (k : Nat) (n : Int), 0 ≤ n → n < 256 ^ k → n ≤ 18446744073709551615 → numB (layB n k) = n
  | 0, n, h1, h2, _ => by rw [Int.pow_zero] at h2; rw [show n = 0 by omega]; rfl
  | k + 1, n, h1, h2, h3 => by
    rw [Int.pow_succ] at h2
    have ih := numB_lay k (n / 256) (by omega) (Int.ediv_lt_of_lt_mul (by decide) h2) (by omega)
    unfold numB at ih ⊢
    rw [layB, List.foldl_append, ih]
    simp only [List.foldl_cons, List.foldl_nil]
    omega
theorem lay_head {n : Int} (hn : 0 < n) (h : n ≤ 18446744073709551615) : ∃ c r w, widthN 8 n = w + 1 ∧ layB n (widthN 8 n) = c :: r ∧ ¬ c = 0 := by
  obtain ⟨w, hw, hl⟩ := widthN_lo 8 n hn (by rw [p8]; omega)
  have hh := widthN_hi 8 n (by omega) (by rw [p8]; omega)
  rw [hw, Int.pow_succ] at hh
  refine ⟨_, _, w, hw, by rw [hw, layB_top], ?_⟩
  have hp : (0 : Int) < 256 ^ w := Int.pow_pos (by decide)
  have h1 : 1 ≤ n / 256 ^ w := by rw [Int.le_ediv_iff_mul_le hp]; omega
  have h2 : n / 256 ^ w < 256 := Int.ediv_lt_of_lt_mul hp (by omega)
  omega
theorem getSmall_put {n : Int} (hn : 0 ≤ n ∧ n ≤ 18446744073709551615) (b : List Int) : getSmall (putSmall n ++ b) = (n, (((putSmall n).length : Nat) : Int), 0) := by
  have hw := widthN_le 8 n
  have hl : (layB n (widthN 8 n)).length = widthN 8 n := layB_len _ _
  have h0 : (putSmall n ++ b).getD 0 0 = ((widthN 8 n : Nat) : Int) := by unfold putSmall; simp
  have hlen : (putSmall n).length = widthN 8 n + 1 := by unfold putSmall; simp [hl]
  have h1 : ¬ (0 < ((widthN 8 n : Nat) : Int) ∧ (putSmall n ++ b).getD 1 0 = 0) := by
    intro ⟨p, q⟩
    have : 0 < n := by
      rcases Int.lt_or_le 0 n with h | h
      · exact h
      · rw [show n = 0 by omega, widthN_zero] at p; omega
    obtain ⟨c, r, w, e1, e2, e3⟩ := lay_head this hn.2
    unfold putSmall at q
    rw [e2] at q
    simp at q
    exact e3 q
  unfold getSmall
  rw [h0, if_neg (by rw [List.length_append]; omega), if_neg (by omega), if_neg (by rw [List.length_append]; omega), if_neg h1]
  rw [show (((widthN 8 n : Nat) : Int) + 1).toNat = (putSmall n).length by omega, List.take_left' rfl]
  have e : (putSmall n).drop 1 = layB n (widthN 8 n) := rfl
  rw [e, numB_lay _ _ hn.1 (widthN_hi 8 n hn.1 (by rw [p8]; omega)) hn.2, hlen]
  rfl
end Go.Proofs.Ytbobjiaggngbmaa

set_option linter.unusedVariables false
set_option linter.unusedSimpArgs false
namespace Go.Proofs.Ytbobjiaggngbmaa
open Go.Eng
theorem putText_len (s : List UInt8) : (putText s).length ≤ 2 * s.length + 2 := by
  have := escI_len (bytesOfStr s)
  have e : (bytesOfStr s).length = s.length := by simp [bytesOfStr]
  simp only [putText, putB, List.length_append, List.length_cons, List.length_nil]; omega
theorem putSmall_len (n : Int) : 1 ≤ (putSmall n).length ∧ (putSmall n).length ≤ 9 := by
  have hw := widthN_le 8 n
  have hl : (layB n (widthN 8 n)).length = widthN 8 n := layB_len _ _
  simp only [putSmall, List.length_cons]; omega
theorem bytes_str : ∀ (xs : List Int), isB xs → bytesOfStr (strOfBytes xs) = xs
  | [], _ => rfl
  | x :: r, h => by
    have hx := h x (by simp)
    have ih := bytes_str r (fun z hz => h z (by simp [hz]))
    show ((UInt8.ofNat x.toNat).toNat : Int) :: bytesOfStr (strOfBytes r) = _
    rw [ih, UInt8.toNat_ofNat']
    congr 1; omega
theorem str_inj {xs ys : List Int} (hx : isB xs) (hy : isB ys) (h : strOfBytes xs = strOfBytes ys) : xs = ys := by
  rw [← bytes_str xs hx, h, bytes_str ys hy]
end Go.Proofs.Ytbobjiaggngbmaa

set_option linter.unusedVariables false
set_option linter.unusedSimpArgs false
namespace Go.Proofs.Ytbobjiaggngbmaa
open Go.Eng
abbrev Ver := Int × Int × Bool × List UInt8
abbrev Stk := List UInt8 × List Ver
def pend (me : Int) (v : Ver) : Bool := decide (v.2.1 = 0 ∧ v.1 = me ∧ 0 ≤ me)
end Go.Proofs.Ytbobjiaggngbmaa

set_option linter.unusedVariables false
set_option linter.unusedSimpArgs false
namespace Go.Proofs.Ytbobjiaggngbmaa
open Go.Eng
def roomP (me : Int) (v : Ver) : Bool := (v.2.1 == 0) && (v.1 == me)
def room (s : Stk) (me : Int) : Bool := decide (s.2.length < 8) || s.2.any (roomP me)
def okTs (at' : Int) (v : Ver) : Bool := decide (1 ≤ v.2.1 ∧ v.2.1 ≤ at')
end Go.Proofs.Ytbobjiaggngbmaa

set_option linter.unusedVariables false
set_option linter.unusedSimpArgs false
namespace Go.Proofs.Ytbobjiaggngbmaa
open Go.Eng
abbrev ver0 : Ver := (0, 0, false, [])
def ordered1 (v : Ver) : Bool := v.2.1 == 0
def firstZ (xs : List Ver) : Nat := if idxF ordered1 xs 0 < 0 then xs.length else (idxF ordered1 xs 0).toNat
def OrdA (xs : List Ver) (n : Nat) : Prop := ∀ j, j < n → 1 ≤ j → (xs.getD (j - 1) ver0).2.1 ≤ (xs.getD j ver0).2.1
def OrdB : List Ver → List Int → Prop
  | [], _ => True
  | v :: r, l => v.2.1 = 0 ∧ v.1 ∉ l ∧ OrdB r (v.1 :: l)
instance : ∀ (xs : List Ver) (l : List Int), Decidable (OrdB xs l)
  | [], _ => .isTrue trivial
  | v :: r, l => by
    have := instDecidableOrdB r (v.1 :: l)
    unfold OrdB
    exact inferInstance
instance (xs : List Ver) (n : Nat) : Decidable (OrdA xs n) := by unfold OrdA; exact inferInstance
def ordered (xs : List Ver) : Bool := decide (OrdA xs (firstZ xs) ∧ OrdB (xs.drop (firstZ xs)) [])
end Go.Proofs.Ytbobjiaggngbmaa

set_option linter.unusedVariables false
set_option linter.unusedSimpArgs false
namespace Go.Proofs.Ytbobjiaggngbmaa
open Go.Eng
def write (s : Stk) (v : Ver) : Stk :=
  if 0 ≤ idxF (roomP v.1) s.2 0 then (s.1, s.2.set (idxF (roomP v.1) s.2 0).toNat (v.1, 0, v.2.2)) else if s.2.length < 8 then (s.1, s.2 ++ [(v.1, 0, v.2.2)]) else s
end Go.Proofs.Ytbobjiaggngbmaa

set_option linter.unusedVariables false
set_option linter.unusedSimpArgs false
set_option maxRecDepth 8000
namespace Go.Proofs.Ytbobjiaggngbmaa
open Go.Eng
def sBEqual : PSpec := ⟨[.d BT, .d BT], [⟨false, [.d .bool]⟩], fun _ => True, fun x => ((strOfBytes x.1 == strOfBytes x.2.1, ()), ())⟩
theorem fBEqual : FnOk Try.prog 53 := ⟨_, Try.func53, by decide, rfl⟩
theorem pBEqual : PSound Try.prog 53 sBEqual := by
  refine psound (T := tab) (S := (spOf [])) (keep := k53) (by kernel_rfl) tabOk spNil (by kernel_rfl) Try.func53 (by kernel_rfl) (by decide) fun xs hg hp => ?_
  obtain ⟨xs, ys, ⟨⟩⟩ := xs
  show vfun tab _ k53 Try.f53 [.sl (.int .u8) xs, .sl (.int .u8) ys] [] _
  refine Ev.out ?_
  repeat' (first | ((with_reducible refine Ev.mk ?_); conv => whnf) | (with_reducible refine And.intro ?_ ?_) | (intro h))
  all_goals exact Leaf.mk rfl
end Go.Proofs.Ytbobjiaggngbmaa

set_option linter.unusedVariables false
set_option linter.unusedSimpArgs false
set_option maxRecDepth 8000
set_option maxHeartbeats 4000000
namespace Go.Proofs.Ytbobjiaggngbmaa
open Go.Eng Go.RowKit
abbrev RgT : Ty := .pair .str .str
def rgA (r : Rg) : V := .agg [.s r.1, .s r.2]
theorem RV_rgA {C : Cx} {w : World} {g : Gh} {r : Rg} (h : Eng.Good RgT r) : RV C w g (rgA r) (rgVal r) := by
  obtain ⟨h1, h2⟩ := h
  simp only [rgA, RV, RVs]
  exact ⟨[_, _], rfl, _, _, rfl, ⟨rfl, h1⟩, _, _, rfl, ⟨rfl, h2⟩, rfl⟩
theorem holdsR_of_rep {w : World} {F : Nat → Prop} {rs : List Rg} {sv : Value} (h : rep w F (.slice RgT) rs [sv]) : HoldsR w F sv rs := by
  obtain ⟨A, cap, h1, h2, h3, h4, h5⟩ := h
  obtain rfl : sv = .slice A rs.length cap := by simpa using h1
  cases A with
  | none =>
    obtain rfl := h4 rfl
    obtain rfl : rs = [] := List.eq_nil_of_length_eq_zero (by omega)
    exact .inl ⟨rfl, rfl⟩
  | some ad =>
    refine .inr ⟨ad, cap, rfl, fun j hj => ?_⟩
    obtain ⟨a, ci, ha, hf, hc, hr⟩ := h5 j hj
    cases ha
    obtain ⟨c1, r1, rfl, ⟨rfl, -⟩, ⟨rfl, -⟩⟩ := hr
    have hm : rs.getD j rg0 = rs[j] := by rw [List.getD_eq_getElem?_getD, List.getElem?_eq_getElem hj]; rfl
    rw [hm]
    refine ⟨hf, ?_, ?_⟩
    · have := hc 0 _ rfl; exact this
    · rw [add_add]; exact hc 1 _ rfl
theorem start_rel {C : Cx} {w : World} {g : Gh} {h : Heap} {N : Nat} {args : List V} {vals : List Value} (R : RelH C h w g) (hU : ∀ id, g.U id → id < frN C.pins h) (hn : vals.length ≤ N) (hv : RVs C w g args vals) :
    RelT C N ⟨paramEnv 0 args, h⟩ { tmps := vals.toArray ++ Array.replicate (N - vals.toArray.size) undef, defers := [] } w g := by
  have hsz : (vals.toArray ++ Array.replicate (N - vals.toArray.size) undef).size = N := by simp; omega
  refine ⟨R, fun t v ht => ?_, hU, hsz, rfl⟩
  obtain ⟨_, h2⟩ := paramEnv_look args 0 t v ht
  rw [Nat.sub_zero] at h2
  obtain ⟨x, h3, h4⟩ := RVs_at hv h2
  refine ⟨x, ?_, h4⟩
  have hlt := (List.getElem?_eq_some_iff.1 h3).1
  simp only
  rw [Array.getElem?_append_left (by simpa using hlt)]
  simpa using h3
def allNamed (ids : List Nat) : Heap → Bool
  | [] => true
  | (k, o) :: r => (!o.mut || ids.contains k) && allNamed ids r
theorem allNamed_look {ids : List Nat} : ∀ {h : Heap}, allNamed ids h = true → ∀ {id : Nat} {o : Eng.Obj}, lookN h id = some o → o.mut = true → id ∈ ids
  | [], _, _, _, hc, _ => by simp [lookN] at hc
  | (k, o') :: r, hn, id, o, hc, hm => by
    simp only [allNamed, Bool.and_eq_true] at hn
    simp only [lookN] at hc
    cases hb : Nat.beq k id
    · rw [hb] at hc; exact allNamed_look hn.2 hc hm
    · rw [hb] at hc
      simp only [Option.some.injEq] at hc
      subst hc
      obtain rfl := Nat.eq_of_beq_eq_true hb
      simpa [hm] using hn.1
theorem seq_pre {C : Cx} {N : Nat} {keep : List (Nat × List Nat)} {T : Tab} {S : Specs} (hpin : pinsOf keep = C.pins) (hT : TabOk C.P T) (hS : SpecsOk C.P S) (hmix : C.P.follows .mixedOrders = true) {x y : Code} {st st1 : St} {a : Act} {w : World} {g : Gh} {n : Nat} {Q : Exit → Act → World → Prop} (hok : codeOk N x = true)
    (hs : vc T S keep x st (roundK st1)) (r : RelT C N st a w g) (hy : ∀ a w g, RelT C N st1 a w g → y.wpIn Fence.wide n C.P Q a w) : (Code.seq x y).wpIn Fence.wide n C.P Q a w :=
  wpIn_seq (wpIn_wide.2 (vc_sound hpin hT hS hmix x st _ a w g hok hs r _ fun e s a w g hk r => by
    cases e with
    | normal => obtain rfl := Leaf.out hk; exact hy a w g r
    | exit id => exact hk.elim
    | ret => exact hk.elim
    | goto l => exact hk.elim))
structure StOk (ids : List Nat) (st : St) : Prop where
  pin : pinned ids st.heap = true
  len : ids.length ≤ st.heap.length
  map : noMap st.heap = true
  fine : fineH st.heap = true
  env : st.env.all (fun p => p.2.fine) = true
set_option maxHeartbeats 2000000 in
theorem range_vals {C : Cx} (hP : C.P = Try.prog) (hC : C.pins = ([], 0)) {N : Nat} {ids : List Nat} {keep : List (Nat × List Nat)} (hpin : pinsOf keep = (ids, ids.length)) {T : Tab} {S : Specs} (hT : TabOk C.P T) (hS : SpecsOk C.P S)
    {rs : List Rg} (hrs : rs.length ≤ 1000000) (hgood : ∀ m ∈ rs, Eng.Good RgT m) {assign body : Code} {p d : Nat} {Q : Exit → Act → World → Prop} (hp : p < N)
    (hoa : codeOk N assign = true) (hia : inOk assign = true) (hob : codeOk N body = true) (hib : inOk body = true)
    (stI stA stB : Nat → St) {a2 : Act} {w2 : World} {g2 : Gh} {st2 : St} (r2 : RelT C N st2 a2 w2 g2)
    (hd : lookN st2.env d = some (.fn 65 [.rp [.sl RgT rs]]))
    (hn0 : allNamed ids st2.heap = true) (hst0 : (stI 0).heap = st2.heap) (hen : ∀ k, (stI k).env = (stI 0).env)
    (hE : ∀ t v, lookN (stI 0).env t = some v → lookN st2.env t = some v ∧ ∃ j, j ∈ ids ∧ v = .ptr j 0)
    (okI : ∀ k, StOk ids (stI k)) (okA : ∀ k, StOk ids (stA k)) (okB : ∀ k, StOk ids (stB k)) (hB : ∀ k, (stB k).heap = (stI (k + 1)).heap)
    (hva : ∀ k, k < rs.length → vc T S keep assign ⟨(p, rgA (rs.getD k rg0)) :: (stI k).env, (stI k).heap⟩ (roundK (stA k)))
    {kp : List Nat} (hvb : ∀ k, k < rs.length → vc T S keep body (stA k) (roundN ids kp (stB k)))
    (hQ : ∀ (E : Nat) (W : World), C.w0.heap.size ≤ E → StI C N ids g2.anch (w2.heap.size + 0) w2.heap.size (stI rs.length) a2 W → W.heap[E]? = some (.deferred (some [])) →
      Q .normal { a2 with defers := { target := .collected E, args := #[] } :: a2.defers } W) {n : Nat} :
    (Code.rangeFunc (.tmp d) #[p] assign body).wpIn Fence.wide n C.P Q a2 w2 := by
  refine wpIn_wide.2 (wpIn_wide (n := 10).1 ?_)
  -- the closure, what it has caught
  obtain ⟨x, hx1, hx2⟩ := r2.E d _ hd
  simp only [RV, RVs] at hx2
  obtain ⟨us, rfl, xv, xs', rfl, ⟨⟨blk, off, sub⟩, vs1, rfl, hFb, hcell, sv, vs2, rfl, hrep, rfl⟩, rfl⟩ := hx2
  have hbs : w2.cell? ⟨blk, off, sub⟩ = some sv := by
    have := hcell 0 sv rfl
    simpa [Addr.add] using this
  have hH := holdsR_of_rep hrep
  have hF := r2.H.F
  have hw0 := r2.H.size
  let Kx : Nat → Go.Obj → Prop := fun b o => o.isCells = false ∨ g2.F b
  have hup := vals_all blk off sub sv rs hrs Kx (fun b o h => .inl h) w2 (hF _ hFb) (fun o _ => .inr hFb) hbs
    (by
      rcases hH with h | ⟨ad, cap, h1, h2⟩
      · exact .inl h
      · exact .inr ⟨ad, cap, h1, fun j hj => ⟨⟨hF _ (h2 j hj).1, fun o _ => .inr (h2 j hj).1⟩, (h2 j hj).2⟩⟩) 9 (by omega)
  have hpi0 : ∀ j, j ∈ ids → ∃ o, lookN st2.heap j = some o ∧ o.mut = true := fun j hj => by
    obtain ⟨o, h1, h2⟩ := pinned_look (st := stI 0) (okI 0).pin hj
    rw [hst0] at h1; exact ⟨o, h1, h2⟩
  have hK1 : ∀ j ∈ ids, ∀ b (o : Go.Obj), ablk (g2.anch j) = some b → o.isCells = true → ¬ Kx b o := fun j hj b o hb ho hk => by
    obtain ⟨o', h1, h2⟩ := hpi0 j hj
    obtain ⟨h3, h4⟩ := RO_block (r2.H.obj j o' h1).2 h2 hb
    rcases hk with h5 | h5
    · rw [ho] at h5; cases h5
    · exact h4.2 h5
  have hK2 : ∀ b (o : Go.Obj), w2.heap.size + 0 ≤ b → o.isCells = true → ¬ Kx b o := fun b o hb ho hk => by
    rcases hk with h5 | h5
    · rw [ho] at h5; cases h5
    · have := hF b h5; omega
  have hpe : ∀ k, PinEnv ids g2.anch (stI k).heap a2.tmps (stI 0).env := fun k t v ht => by
    obtain ⟨h1, j, hj, rfl⟩ := hE t v ht
    obtain ⟨o, ho, -⟩ := pinned_look (okI k).pin hj
    obtain ⟨y, h2, h3⟩ := r2.E t _ h1
    simp only [RV] at h3
    obtain ⟨-, ad, h4, rfl⟩ := h3
    exact ⟨j, ad, rfl, hj, ⟨o, ho⟩, h4, h2⟩
  have hI0 : StI C N ids g2.anch (w2.heap.size + 0) w2.heap.size (stI 0) a2 w2 := by
    have e0 : stI 0 = ⟨(stI 0).env, st2.heap⟩ := by rw [← hst0]
    rw [e0]
    refine ⟨g2, ⟨⟨r2.H, fun t v ht => r2.E t v (hE t v ht).1, r2.ub, r2.sz, r2.df⟩, fun b hb h1 => absurd (hF b hb) (by omega), fun _ _ => rfl, fun id o b ho hm hid _ => absurd (allNamed_look hn0 ho hm) hid⟩⟩
  have hmem : ∀ k, k < rs.length → Eng.Good RgT (rs.getD k rg0) := fun k hk => hgood _ (getD_mem (xs := rs) rg0 hk)
  have hlen : ∀ {pre : List Value} {x : Value} {post : List Value}, rs.map rgVal = pre ++ x :: post → pre.length < rs.length ∧ x = rgVal (rs.getD pre.length rg0) := fun {pre x post} h => by
    have h1 : pre.length < rs.length := by have := congrArg List.length h; simp at this; omega
    refine ⟨h1, ?_⟩
    have h2 := congrArg (fun l => l[pre.length]?) h
    simp only [List.getElem?_map, List.getElem?_eq_getElem h1, List.getElem?_append_right (Nat.le_refl _), Nat.sub_self, List.getElem?_cons_zero, Option.map_some, Option.some.injEq] at h2
    rw [← h2, List.getD_eq_getElem?_getD, List.getElem?_eq_getElem h1]
    try rfl
  have hdf := r2.df
  rw [hP]
  refine range_all (P := Try.prog) (F := Fence.wide) (n := 10) rfl (by omega) (gf := 65) (lb := #[.pointer (some ⟨blk, off, sub⟩)]) ?hg trivial (enters_of Try.func65 (by kernel_rfl) rfl) hup (fun _ => rfl) (fun b o h => .inl h)
    (fun pre W => StI C N ids g2.anch (w2.heap.size + 0) w2.heap.size (stI pre.length) a2 W) (StI.own (fun pre : List Value => stI pre.length) (fun _ => a2) (fun pre => (okI pre.length).map) hw0) hI0
    (fun pre x a' W => StI C N ids g2.anch (w2.heap.size + 0) w2.heap.size (stA pre.length) a' W) (fun pre x a' => StI.own (fun _ : Unit => stA pre.length) (fun _ => a') (fun _ => (okA _).map) hw0) ?assign ?body ?done
  case hg =>
    simp only [Act.eval, Array.getD_eq_getD_getElem?, hx1, Option.getD_some]
  case assign =>
    intro l pre x post W hxs hD hI
    obtain ⟨hk, rfl⟩ := hlen hxs
    have k1 := hI.more (t := p) (v := rgA (rs.getD pre.length rg0)) (x := rgVal (rs.getD pre.length rg0)) hp (fun w g => RV_rgA (hmem _ hk))
    have h9 := StI.step (st := ⟨(p, rgA (rs.getD pre.length rg0)) :: (stI pre.length).env, (stI pre.length).heap⟩) (st' := stA pre.length) (l := l) (m := 10 - 1 - 1) hC hpin hT hS hoa hia (okI _).pin (okA _).pin (okI _).len (okA _).len (okI _).map (okA _).env (okA _).fine (hva _ hk) hK1 hK2 k1 hD
    rw [hP] at h9
    have ha : ({ a2 with tmps := a2.tmps.setIfInBounds p (rgVal (rs.getD pre.length rg0)) } : Act) = { tmps := (#[p].zip #[rgVal (rs.getD pre.length rg0)]).foldl (fun t (q : Tmp × Value) => t.setIfInBounds q.1 q.2) a2.tmps, defers := [] } := by
      rw [hdf]; simp
    rw [ha] at h9
    refine wpIn_mono h9 fun e a w h => ?_
    obtain ⟨rfl, h1, h2⟩ := h
    exact ⟨h1, h2⟩
  case body =>
    intro l pre x post a' W hxs hD hI
    obtain ⟨hk, rfl⟩ := hlen hxs
    have h9 := StI.stepN (kp := kp) (st := stA pre.length) (st' := stB pre.length) (l := l) (m := 10 - 1 - 1) hC hpin hT hS hob hib (okA _).pin (okB _).pin (okA _).len (okB _).len (okA _).map (okB _).env (okB _).fine (hvb _ hk) hK1 hK2 hI hD
    rw [hP] at h9
    refine wpIn_mono h9 fun e a w h => ?_
    obtain ⟨rfl, h1, h2⟩ := h
    refine ⟨rfl, ?_, h2⟩
    have h3 := h1.reenv (a2 := a2) (env2 := (stI 0).env) (by rw [hB]; exact hpe _) r2.sz hdf
    rw [hB] at h3
    have e1 : (pre ++ [rgVal (rs.getD pre.length rg0)]).length = pre.length + 1 := by simp
    rw [e1]
    have e2 : stI (pre.length + 1) = ⟨(stI 0).env, (stI (pre.length + 1)).heap⟩ := by rw [← hen (pre.length + 1)]
    rw [e2]; exact h3
  case done =>
    intro E W hE hI hd'
    rw [List.length_map] at hI
    exact hQ E W (Nat.le_trans hw0 hE) hI hd'
def rgO (m : Rg) : Eng.Obj := .box [.s m.1, .s m.2]
def asI (rs : List Rg) : Nat → St
  | 0 => ⟨[(2, .ptr 0 0)], [(0, .box [.nil])]⟩
  | k + 1 => ⟨[(2, .ptr 0 0)], [(0, .box [.own 1]), (1, .arr 29 RgT (rs.take (k + 1)))]⟩
def asA (rs : List Rg) : Nat → St
  | 0 => ⟨[(2, .ptr 0 0), (5, .ptr 1 0)], [(0, .box [.nil]), (1, rgO (rs.getD 0 rg0))]⟩
  | k + 1 => ⟨[(2, .ptr 0 0), (5, .ptr 1 0)], [(0, .box [.own 2]), (1, rgO (rs.getD (k + 1) rg0)), (2, .arr 29 RgT (rs.take (k + 1)))]⟩
def asKeep : List (Nat × List Nat) := [(3000000, [0]), (2, [2, 5]), (3, [2])]
theorem take_snocR {l : List Rg} {k : Nat} (h : k < l.length) : l.take (k + 1) = l.take k ++ [l.getD k rg0] := by
  rw [List.take_add_one, List.getElem?_eq_getElem h, List.getD_eq_getElem?_getD, List.getElem?_eq_getElem h]; rfl
def sAppSeq : PSpec := ⟨[.z, .fb 65 (.slice RgT)], [⟨false, [.o 29 RgT]⟩], fun x => List.length x.2.1 ≤ 100000, fun x => ((x.2.1, ()), ())⟩
theorem fAppSeq : FnOk Try.prog 80 := ⟨_, Try.func80, by decide, rfl⟩
theorem pAppSeq : PSound Try.prog 80 sAppSeq := by
  refine psoundC fun w F xs vals hF hv hpre => ?_
  have hg := argsV_good _ _ _ hv
  obtain ⟨⟨⟩, rs, ⟨⟩⟩ := xs
  change List Rg at rs
  change rs.length ≤ 100000 at hpre
  refine (callsIn_wide (n := 10)).1 (callsIn_of_wp_marks Try.func80 rfl trivial ?_)
  have hvl := RVs_len hv
  have r0 := start_rel (N := 13) (RelH.at Try.prog w F hF) (fun id h => h.elim) (by rw [hvl]; exact Nat.le_of_ble_eq_true rfl) hv
  change RelT _ _ ⟨[(0, .nil), (1, .fn 65 [.rp [.sl RgT rs]])], []⟩ _ _ _ at r0
  refine seq_pre (C := Cx.at Try.prog w F) (keep := [(0, [1, 2])]) (T := tab) (S := (spOf [])) (st1 := ⟨[(1, .fn 65 [.rp [.sl RgT rs]]), (2, .ptr 0 0)], [(0, .box [.nil])]⟩) rfl tabOk spNil (by kernel_rfl) (by kernel_rfl) ?v1 r0 fun a1 w1 g1 r1 => ?_
  case v1 =>
    refine Ev.out ?_
    repeat' (first | ((with_reducible refine Ev.mk ?_); conv => whnf) | (with_reducible refine And.intro ?_ ?_) | (intro h))
    exact Leaf.mk rfl
  refine wpIn_seq ?_
  refine seq_pre (C := Cx.at Try.prog w F) (keep := [(1, [2, 6])]) (T := tab) (S := (spOf [])) (st1 := ⟨[(2, .ptr 0 0), (6, .fn 65 [.rp [.sl RgT rs]])], [(0, .box [.nil])]⟩) rfl tabOk spNil (by kernel_rfl) (by kernel_rfl) ?v1 r1 fun a3 w3 g3 r3 => ?_
  case v1 =>
    refine Ev.out ?_
    repeat' (first | ((with_reducible refine Ev.mk ?_); conv => whnf) | (with_reducible refine And.intro ?_ ?_) | (intro h))
    exact Leaf.mk rfl
  clear r0 r1
  refine wpIn_block ?_
  refine range_vals (ids := [0]) (keep := asKeep) (kp := [2]) (T := tab) (S := (spOf [])) rfl rfl (N := 13) rfl tabOk spNil (by omega) ?hgood (by decide) (by kernel_rfl) (by kernel_rfl) (by kernel_rfl) (by kernel_rfl) (asI rs) (asA rs) (fun k => asI rs (k + 1)) r3 rfl (by kernel_rfl) rfl ?hen ?hE ?okI ?okA ?okB ?hB ?hva ?hvb ?hQ
  case hgood => exact hg.1.2
  case hen => intro k; cases k <;> rfl
  case hE =>
    intro t v ht
    have := lookN_mem _ _ _ ht
    simp only [asI, List.mem_singleton, Prod.mk.injEq] at this
    obtain ⟨rfl, rfl⟩ := this
    exact ⟨rfl, 0, by simp, rfl⟩
  case okI => intro k; cases k <;> exact ⟨rfl, Nat.le_of_ble_eq_true rfl, rfl, rfl, rfl⟩
  case okA => intro k; cases k <;> exact ⟨rfl, Nat.le_of_ble_eq_true rfl, rfl, rfl, rfl⟩
  case okB => intro k; exact ⟨rfl, Nat.le_of_ble_eq_true rfl, rfl, rfl, rfl⟩
  case hB => intro k; rfl
  case hva =>
    intro k hk
    cases k
    · refine Ev.out ?_
      repeat' (first | ((with_reducible refine Ev.mk ?_); conv => whnf) | (with_reducible refine And.intro ?_ ?_) | (intro h))
      exact Leaf.mk rfl
    · refine Ev.out ?_
      repeat' (first | ((with_reducible refine Ev.mk ?_); conv => whnf) | (with_reducible refine And.intro ?_ ?_) | (intro h))
      exact Leaf.mk rfl
  case hvb =>
    intro k hk
    have ht := take_snocR hk
    have h9 := List.length_take_le k rs
    cases k
    · refine Ev.out ?_
      repeat' (first | ((with_reducible refine Ev.mk ?_); conv => whnf) | (with_reducible refine And.intro ?_ ?_) | (intro h))
      · exact Leaf.mk (by simp)
      · exact Leaf.mk (by simp [maxLen])
      · refine Leaf.mk ?_
        simp only [asI, ht]; rfl
    · refine Ev.out ?_
      repeat' (first | ((with_reducible refine Ev.mk ?_); conv => whnf) | (with_reducible refine And.intro ?_ ?_) | (intro h))
      · exact Leaf.mk (by rw [List.length_singleton]; omega)
      · exact Leaf.mk (by rw [List.length_singleton]; unfold maxLen; omega)
      · refine Leaf.mk ?_
        simp only [asI, ht]
  case hQ =>
    intro E W hE hI hd
    cases hn : rs.length with
    | zero =>
      rw [hn] at hI
      refine StI.ends (keep := [(4, [4])]) (T := tab) (S := (spOf [])) rfl rfl tabOk spNil (by kernel_rfl) (by kernel_rfl) (by kernel_rfl) ?_ hI rfl hd hE
      refine Ev.out ?_
      repeat' (first | ((with_reducible refine Ev.mk ?_); conv => whnf) | (with_reducible refine And.intro ?_ ?_) | (intro h))
      · exact Leaf.mk rfl
      · refine Ev.out ?_
        repeat' (first | ((with_reducible refine Ev.mk ?_); conv => whnf) | (with_reducible refine And.intro ?_ ?_) | (intro h))
        refine Leaf.mk (ret1 (show ([] : List Rg) = rs from ?_))
        exact (List.eq_nil_of_length_eq_zero hn).symm
    | succ n =>
      rw [hn] at hI
      refine StI.ends (keep := [(4, [4])]) (T := tab) (S := (spOf [])) rfl rfl tabOk spNil (by kernel_rfl) (by kernel_rfl) (by kernel_rfl) ?_ hI rfl hd hE
      refine Ev.out ?_
      repeat' (first | ((with_reducible refine Ev.mk ?_); conv => whnf) | (with_reducible refine And.intro ?_ ?_) | (intro h))
      · exact Leaf.mk rfl
      · refine Ev.out ?_
        repeat' (first | ((with_reducible refine Ev.mk ?_); conv => whnf) | (with_reducible refine And.intro ?_ ?_) | (intro h))
        refine Leaf.mk (ret1 (show rs.take (n + 1) = rs from ?_))
        exact List.take_of_length_le (by omega)
end Go.Proofs.Ytbobjiaggngbmaa

set_option linter.unusedVariables false
set_option linter.unusedSimpArgs false
set_option maxRecDepth 8000
set_option maxHeartbeats 4000000
namespace Go.Proofs.Ytbobjiaggngbmaa
open Go.Proofs Go.RowKit Go.Shelf Go.Lib Go.Sort
set_option maxRecDepth 100000 in
theorem cmpString_w (a b : ByteArray) (w : World) : Calls Try.prog 66 #[.string a, .string b] w fun e w' => e = .returned (.int .i64 (Lib.compareBytes a.data.toList b.data.toList)) ∧ w' = w := by
  go_enter Try.func66, Try.ntmps66
  go_wp2
  rw [run_callFunc_extern Try.func83 (by kernel_rfl) (by kernel_rfl) (by kernel_rfl) (e := Extern.BytealgCompare.compare) (by kernel_rfl), Lib.run_compareString]
  simp only [Result.andThen]
  rw [Oper.upon_value]
  go_wp2
  go_ret
  exact ⟨rfl, rfl⟩
set_option maxRecDepth 100000 in
theorem sCompare_w (a b : ByteArray) (w : World) : Calls Try.prog 39 #[.string a, .string b] w fun e w' => e = .returned (.int .i64 (Lib.compareBytes a.data.toList b.data.toList)) ∧ w' = w := by
  have hcon := fun W => cmpString_w a b W
  generalize Lib.compareBytes a.data.toList b.data.toList = r at hcon ⊢
  go_enter Try.func39, Try.ntmps39
  go_wp2_with (go_at_call 66; refine (hcon _).mono ?_; rintro e w' ⟨rfl, rfl⟩)
  go_ret
  exact ⟨rfl, rfl⟩
def encR (r : Rg) : List Value := [.string ⟨⟨r.1⟩⟩, .string ⟨⟨r.2⟩⟩]
def cmpR (x y : Rg) : Int := Lib.compareBytes x.1 y.1
set_option maxRecDepth 100000 in
theorem plain1_w (x y : Rg) (W : World) : Calls Try.prog 38 #[.agg #[.string ⟨⟨x.1⟩⟩, .string ⟨⟨x.2⟩⟩], .agg #[.string ⟨⟨y.1⟩⟩, .string ⟨⟨y.2⟩⟩]] W fun e w' => e = .returned (.int .i64 (cmpR x y)) ∧ ∃ q os', w' = grow (W.drewN q) os' := by
  have hcon := fun W => sCompare_w ⟨⟨x.1⟩⟩ ⟨⟨y.1⟩⟩ W
  change ∀ W, Calls Try.prog _ #[.string ⟨⟨x.1⟩⟩, .string ⟨⟨y.1⟩⟩] W fun e w' => e = .returned (.int .i64 (cmpR x y)) ∧ w' = W at hcon
  generalize cmpR x y = r at hcon ⊢
  go_enter Try.func38, Try.ntmps38
  go_wp2_with (go_at_call 39; refine (hcon _).mono ?_; rintro e w' ⟨rfl, rfl⟩)
  go_ret
  exact ⟨rfl, 0, _, by rw [alloc_eq_grow, alloc_eq_grow, grow_grow]; rfl⟩
end Go.Proofs.Ytbobjiaggngbmaa
