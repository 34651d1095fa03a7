import Derived.Test.YtbobjiaggngbmaaQ7
import Derived.Test.YtbobjiaggngbmaaEng4
import Derived.Test.YtbobjiaggngbmaaTab
import Derived.Test.YtbobjiaggngbmaaEng3
/- Texts, one behind the other. -/
set_option linter.unusedVariables false
set_option linter.unusedSimpArgs false
namespace Go.Proofs.Ytbobjiaggngbmaa
open Go.Eng
theorem byte0 {xs : List Int} (hx : ∀ x ∈ xs, Eng.Good (.int .u8) x) (i : Nat) : 0 ≤ xs.getD i 0 ∧ xs.getD i 0 ≤ 255 := by
  rcases Nat.lt_or_ge i xs.length with h | h
  · exact bdu8 (good_at (e := .int .u8) hx h 0)
  · rw [List.getD_eq_getElem?_getD, List.getElem?_eq_none h]; decide
def putSmall (n : Int) : List Int := ((widthN 8 n : Nat) : Int) :: layB n (widthN 8 n)
def sPutSmall : PSpec := ⟨[.d (.int .u64)], [⟨false, [.o 5 (.int .u8)]⟩], fun _ => True, fun x => ((putSmall x.1, ()), ())⟩
theorem fPutSmall : FnOk Try.prog 45 := ⟨_, Try.func45, by decide, rfl⟩
theorem pPutSmall : PSound Try.prog 45 sPutSmall := by
  refine psound (T := tab) (S := (spOf [(69, sWidth.spec (lsOf [])), (70, sLay.spec (lsOf []))])) (keep := k45) (by kernel_rfl) tabOk (spCons (pOk pWidth fWidth (by decide) lsNil) (spCons (pOk pLay fLay (by decide) lsNil) spNil)) (by kernel_rfl) Try.func45 (by kernel_rfl) (by decide) fun xs hg hp => ?_
  obtain ⟨n, ⟨⟩⟩ := xs
  obtain ⟨hn, -⟩ := hg
  change Int at n
  have hn := bdu64 hn
  change 0 ≤ n ∧ n ≤ _ at hn
  have hw := widthN_le 8 n
  clear hp
  show vfun tab _ k45 Try.f45 [.i .u64 n] [] _
  refine Ev.out ?_
  repeat' (first | ((with_reducible refine Ev.mk ?_); conv => whnf) | (with_reducible refine And.intro ?_ ?_) | (intro h))
  all_goals (try simp only [decide_eq_true_eq, decide_eq_false_iff_not, beq_iff_eq, bne_iff_ne, beq_eq_false_iff_ne, bne_eq_false_iff_eq, Int.toNat_natCast, ge_iff_le, gt_iff_lt, Bool.not_eq_true', Bool.not_eq_false', Int.not_lt, Int.not_le, ne_eq] at *)
  all_goals (try dsimp only [Ty.den, Ty.dflt, BT, sWidth, sLay] at *)
  all_goals (try simp only [eq4, ne4, eq3, ne3, eq2, ne2, Prod.eta, List.length_cons, List.length_nil, List.length_append, Nat.zero_add] at *)
  all_goals (try simp (disch := omega) only [wrap64] at *)
  all_goals (try simp only [layB_len, Int.toNat_natCast] at *)
  all_goals try first | exact leafDraw (by kernel_rfl) | exact Leaf.mk trivial | (refine Leaf.mk ?_; omega) | (refine Leaf.mk ?_; unfold maxLen; omega)
  · exact Leaf.mk (show (0 : Int) ≤ ((widthN 8 n : Nat) : Int) ∧ ((widthN 8 n : Nat) : Int) ≤ 8 by omega)
  · refine Leaf.mk (ret1 (show [IntKind.u8.wrap ((widthN 8 n : Nat) : Int)] ++ layB n (((widthN 8 n : Nat) : Int)).toNat = putSmall n from ?_))
    rw [wrapU8, putSmall, Int.toNat_natCast]
    rw [show ((widthN 8 n : Nat) : Int) % 256 = ((widthN 8 n : Nat) : Int) by omega]; rfl
def getSmall (b : List Int) : Int × Int × Int :=
  if b.length = 0 then (0, 0, 3) else if 8 < b.getD 0 0 then (0, 0, 4) else if (b.length : Int) ≤ b.getD 0 0 then (0, 0, 3) else if 0 < b.getD 0 0 ∧ b.getD 1 0 = 0 then (0, 0, 4)
  else (numB ((b.take (b.getD 0 0 + 1).toNat).drop 1), b.getD 0 0 + 1, 0)
def sGetSmall : PSpec := ⟨[.d BT], [⟨false, [.d (.int .u64)]⟩, ⟨false, [.d (.int .i64)]⟩, ⟨false, [.d (.int .i64)]⟩], fun _ => True, fun x => (((getSmall x.1).1, ()), ((getSmall x.1).2.1, ()), ((getSmall x.1).2.2, ()), ())⟩
theorem fGetSmall : FnOk Try.prog 75 := ⟨_, Try.func75, by decide, rfl⟩
theorem pGetSmall : PSound Try.prog 75 sGetSmall := by
  refine psound (T := tab) (S := (spOf [(84, sNumber.spec (lsOf []))])) (keep := k75) (by kernel_rfl) tabOk (spCons (pOk pNumber fNumber (by decide) lsNil) spNil) (by kernel_rfl) Try.func75 (by kernel_rfl) (by decide) fun xs hg hp => ?_
  obtain ⟨xs, ⟨⟩⟩ := xs
  obtain ⟨⟨hl, hx⟩, -⟩ := hg
  change List Int at xs
  have hl := len63 hl
  change xs.length ≤ _ at hl
  change ∀ x ∈ xs, Eng.Good (.int .u8) x at hx
  clear hp
  have hb0 := byte0 hx 0
  show vfun tab _ k75 Try.f75 [.sl (.int .u8) xs] [] _
  refine Ev.out ?_
  repeat' (first | ((with_reducible refine Ev.mk ?_); conv => whnf) | (with_reducible refine And.intro ?_ ?_) | (intro h))
  all_goals (try simp only [decide_eq_true_eq, decide_eq_false_iff_not, beq_iff_eq, bne_iff_ne, beq_eq_false_iff_ne, bne_eq_false_iff_eq, Int.toNat_natCast, ge_iff_le, gt_iff_lt, Bool.not_eq_true', Bool.not_eq_false', Int.not_lt, Int.not_le, ne_eq] at *)
  all_goals (try dsimp only [Ty.den, Ty.dflt, BT, sNumber] at *)
  all_goals (try simp only [eq4, ne4, eq3, ne3, eq2, ne2, Prod.eta, List.length_cons, List.length_nil, List.length_append, Nat.zero_add] at *)
  all_goals (try simp (disch := omega) only [wrap64] at *)
  all_goals (try simp only [Int.reduceToNat] at *)
  all_goals (try simp (disch := omega) only [wrap64] at *)
  all_goals try first | exact leafDraw (by kernel_rfl) | exact Leaf.mk trivial | (refine Leaf.mk ?_; omega) | (refine Leaf.mk ?_; unfold maxLen; omega)
  all_goals clear hx
  all_goals (try (refine Leaf.mk ?_; omega))
  all_goals (refine Leaf.mk (ret3 ?_ ?_ ?_) <;> (dsimp only; rw [getSmall]; repeat (first | rw [if_pos (by omega)] | rw [if_neg (by omega)])))
  all_goals (dsimp only; rw [Int.add_comm])
end Go.Proofs.Ytbobjiaggngbmaa

set_option linter.unusedVariables false
set_option linter.unusedSimpArgs false
set_option maxRecDepth 8000
namespace Go.Proofs.Ytbobjiaggngbmaa
open Go.Eng
theorem flat_at {α : Type} {xs : List (List α)} {i : Nat} (h : i < xs.length) : (xs.take (i + 1)).flatten = (xs.take i).flatten ++ xs.getD i [] := by
  rw [take_at [] h, List.flatten_append]; simp
theorem flat_le {α : Type} {xs : List (List α)} (i : Nat) : (xs.take i).flatten.length ≤ xs.flatten.length := by
  conv => rhs; rw [← List.take_append_drop i xs]
  rw [List.flatten_append, List.length_append]; omega
theorem flat_get {α : Type} {xs : List (List α)} {i : Nat} (h : i < xs.length) : (xs.take i).flatten.length + (xs.getD i []).length ≤ xs.flatten.length := by
  have := flat_le (xs := xs) (i + 1)
  rw [flat_at h, List.length_append] at this; exact this
theorem fGrowB : FnOk Try.prog 71 := ⟨_, Try.func71, by decide, rfl⟩
noncomputable def iGrowB : Eng.Spec := inl tab (spOf []) k71 Try.f71
theorem pGrowB : SpecOk Try.prog 71 iGrowB := inl_ok tabOk spNil (by kernel_rfl) Try.func71 (by kernel_rfl)
def sConcatB : PSpec := ⟨[.d (.slice BT)], [⟨false, [.d BT]⟩], fun x => List.length x.1 ≤ 1000 ∧ List.length (List.flatten (α := Int) x.1) ≤ 1000000, fun x => ((List.flatten (α := Int) x.1, ()), ())⟩
theorem fConcatB : FnOk Try.prog 46 := ⟨_, Try.func46, by decide, rfl⟩
theorem pConcatB : PSound Try.prog 46 sConcatB := by
  refine psound (T := tab) (S := (spOf [(71, iGrowB)])) (keep := k46) (by kernel_rfl) tabOk (spCons (.inl ⟨pGrowB, fGrowB⟩) spNil) (by kernel_rfl) Try.func46 (by kernel_rfl) (by decide) fun xs hg hp => ?_
  obtain ⟨xs, ⟨⟩⟩ := xs
  change List (List Int) at xs
  change xs.length ≤ 1000 ∧ xs.flatten.length ≤ 1000000 at hp
  obtain ⟨hp, hf⟩ := hp
  show vfun tab _ k46 Try.f46 [.sl BT xs] [] _
  refine Ev.out ?_
  repeat' (first | ((with_reducible refine Ev.mk ?_); conv => whnf) | (with_reducible refine And.intro ?_ ?_) | (intro h))
  refine LoopVC.on (fun i : Nat => [(11, .i .i64 i), (3, .i .i64 ((xs.take i).flatten.length : Nat))]) (fun _ => []) (fun i => i ≤ xs.length) (fun i => xs.length - i) 0 rfl (by omega) ?_
  intro i hi
  have hle := flat_le (xs := xs) i
  have hge := fun h => flat_get (xs := xs) (i := i) h
  repeat' (first | ((with_reducible refine Ev.mk ?_); conv => whnf) | (with_reducible refine And.intro ?_ ?_) | (intro h))
  all_goals (try simp only [decide_eq_true_eq, decide_eq_false_iff_not, beq_iff_eq, bne_iff_ne, beq_eq_false_iff_ne, bne_eq_false_iff_eq, Int.toNat_natCast, ge_iff_le, gt_iff_lt, Bool.not_eq_true', Bool.not_eq_false', Int.not_lt, Int.not_le, ne_eq] at *)
  all_goals (try dsimp only [Ty.den, Ty.dflt, BT] at *)
  all_goals (try simp only [eq4, ne4, eq3, ne3, eq2, ne2, Prod.eta, List.length_cons, List.length_nil, List.length_append, Nat.zero_add] at *)
  all_goals (try simp (disch := omega) only [wrap64] at *)
  all_goals try first | exact leafDraw (by kernel_rfl) | exact Leaf.mk trivial | (refine Leaf.mk ?_; omega) | (refine Leaf.mk ?_; unfold maxLen; omega)
  · omega
  · refine Leaf.mk ⟨i + 1, ?_, by omega, by omega⟩
    rw [flat_at (by omega), List.length_append]; simp only [Int.natCast_add]; rfl
  · omega
  · refine LoopVC.on (fun j : Nat => [(27, .i .i64 j)]) (fun j => [(0, .arr 5 (.int .u8) (xs.take j).flatten)]) (fun j => j ≤ xs.length) (fun j => xs.length - j) 0 rfl (by omega) ?_
    intro j hj
    have hle := flat_le (xs := xs) j
    have hge := fun h => flat_get (xs := xs) (i := j) h
    repeat' (first | ((with_reducible refine Ev.mk ?_); conv => whnf) | (with_reducible refine And.intro ?_ ?_) | (intro h))
    all_goals (try simp only [decide_eq_true_eq, decide_eq_false_iff_not, beq_iff_eq, bne_iff_ne, beq_eq_false_iff_ne, bne_eq_false_iff_eq, Int.toNat_natCast, ge_iff_le, gt_iff_lt, Bool.not_eq_true', Bool.not_eq_false', Int.not_lt, Int.not_le, ne_eq] at *)
    all_goals (try dsimp only [Ty.den, Ty.dflt, BT] at *)
    all_goals (try simp only [eq4, ne4, eq3, ne3, eq2, ne2, Prod.eta, List.length_cons, List.length_nil, List.length_append, Nat.zero_add] at *)
    all_goals (try simp (disch := omega) only [wrap64] at *)
    all_goals try first | exact leafDraw (by kernel_rfl) | exact Leaf.mk trivial | (refine Leaf.mk ?_; omega) | (refine Leaf.mk ?_; unfold maxLen; omega)
    · refine Leaf.mk ⟨j + 1, ?_, by omega, by omega⟩
      rw [flat_at (by omega)]; rfl
    · rw [List.take_of_length_le (by omega)]; exact Leaf.mk (ret1 rfl)
  · refine LoopVC.weak [(.slot 6, .nil 5 (.int .u8))] (fun j : Nat => [(27, .i .i64 j)]) (fun j => [(0, .arr 5 (.int .u8) (xs.take j).flatten)]) (fun j => j ≤ xs.length) (fun j => xs.length - j) 0 (Ev.mk ?_)
    (conv => whnf)
    refine ⟨Leaf.mk rfl, Leaf.mk ?_, ?_⟩
    · omega
    intro j hj
    have hle := flat_le (xs := xs) j
    have hge := fun h => flat_get (xs := xs) (i := j) h
    repeat' (first | ((with_reducible refine Ev.mk ?_); conv => whnf) | (with_reducible refine And.intro ?_ ?_) | (intro h))
    all_goals (try simp only [decide_eq_true_eq, decide_eq_false_iff_not, beq_iff_eq, bne_iff_ne, beq_eq_false_iff_ne, bne_eq_false_iff_eq, Int.toNat_natCast, ge_iff_le, gt_iff_lt, Bool.not_eq_true', Bool.not_eq_false', Int.not_lt, Int.not_le, ne_eq] at *)
    all_goals (try dsimp only [Ty.den, Ty.dflt, BT] at *)
    all_goals (try simp only [eq4, ne4, eq3, ne3, eq2, ne2, Prod.eta, List.length_cons, List.length_nil, List.length_append, Nat.zero_add] at *)
    all_goals (try simp (disch := omega) only [wrap64] at *)
    all_goals try first | exact leafDraw (by kernel_rfl) | exact Leaf.mk trivial | (refine Leaf.mk ?_; omega) | (refine Leaf.mk ?_; unfold maxLen; omega)
    · refine Leaf.mk ⟨j + 1, ?_, by omega, by omega⟩
      rw [flat_at (by omega)]; rfl
    · rw [List.take_of_length_le (by omega)]; exact Leaf.mk (ret1 rfl)
end Go.Proofs.Ytbobjiaggngbmaa

set_option linter.unusedVariables false
set_option linter.unusedSimpArgs false
namespace Go.Proofs.Ytbobjiaggngbmaa
open Go.Eng
def sBCloneO : PSpec := ⟨[.d BT], [⟨false, [.o 5 (.int .u8)]⟩], fun x => x.1.length ≤ 1000000, fun x => ((x.1, ()), ())⟩
theorem fBCloneO : FnOk Try.prog 73 := ⟨_, Try.func73, by decide, rfl⟩
theorem pBCloneO : PSound Try.prog 73 sBCloneO := by
  refine psound (T := tab) (S := (spOf [])) (keep := k73) (by kernel_rfl) tabOk spNil (by kernel_rfl) Try.func73 (by kernel_rfl) (by decide) fun xs hg hp => ?_
  obtain ⟨xs, ⟨⟩⟩ := xs
  obtain ⟨⟨hl, -⟩, -⟩ := hg
  change List Int at xs
  clear hl
  change xs.length ≤ 1000000 at hp
  show vfun tab _ k73 Try.f73 [.sl (.int .u8) xs] [] _
  refine Ev.out ?_
  repeat' (first | ((with_reducible refine Ev.mk ?_); conv => whnf) | (with_reducible refine And.intro ?_ ?_) | (intro h))
  all_goals (try simp only [decide_eq_true_eq, decide_eq_false_iff_not, beq_iff_eq, bne_iff_ne, beq_eq_false_iff_ne, bne_eq_false_iff_eq, Int.toNat_natCast, ge_iff_le, gt_iff_lt, Bool.not_eq_true', Bool.not_eq_false', Int.not_lt, Int.not_le, ne_eq] at *)
  all_goals (try dsimp only [Ty.den, Ty.dflt, BT] at *)
  all_goals (try simp only [eq4, ne4, eq3, ne3, eq2, ne2, Prod.eta, List.length_cons, List.length_nil, List.length_append, Nat.zero_add] at *)
  all_goals (try simp (disch := omega) only [wrap64] at *)
  all_goals try first | exact leafDraw (by kernel_rfl) | exact Leaf.mk trivial | (refine Leaf.mk ?_; omega) | (refine Leaf.mk ?_; unfold maxLen; omega)
  · refine Leaf.mk (ret1 (show ([] : List Int) = xs from ?_))
    exact (List.eq_nil_of_length_eq_zero h).symm
  · exact Leaf.mk (ret1 rfl)
def behN (xs : List Int) : Nat → Nat
  | 0 => 0
  | n + 1 => if xs.getD n 0 = 255 then behN xs n else n + 1
def behL (xs : List Int) : List Int × Bool := match behN xs xs.length with
  | 0 => ([], false)
  | n + 1 => (xs.take n ++ [xs.getD n 0 + 1], true)
theorem take_set (xs : List Int) {m : Nat} (h : m < xs.length) (v : Int) : (xs.take (m + 1)).set m v = xs.take m ++ [v] := by
  rw [List.take_succ_eq_append_getElem h, List.set_append_right _ _ (by simp; omega)]
  simp [List.length_take, Nat.min_eq_left (Nat.le_of_lt h)]
theorem getD_take (xs : List Int) {m n : Nat} (h : m < n) : (xs.take n).getD m 0 = xs.getD m 0 := by
  simp only [List.getD_eq_getElem?_getD, List.getElem?_take, if_pos h]
def sBehind : PSpec := ⟨[.d BT], [⟨false, [.d BT]⟩, ⟨false, [.d .bool]⟩], fun x => x.1.length ≤ 100000, fun x => (((behL x.1).1, ()), ((behL x.1).2, ()), ())⟩
theorem fBehind : FnOk Try.prog 60 := ⟨_, Try.func60, by decide, rfl⟩
theorem pBehind : PSound Try.prog 60 sBehind := by
  refine psound (T := tab) (S := (spOf [(73, sBCloneO.spec (lsOf []))])) (keep := k60) (by kernel_rfl) tabOk (spCons (pOk pBCloneO fBCloneO (by decide) lsNil) spNil) (by kernel_rfl) Try.func60 (by kernel_rfl) (by decide) fun xs hg hp => ?_
  obtain ⟨xs, ⟨⟩⟩ := xs
  obtain ⟨⟨hl, hx⟩, -⟩ := hg
  change List Int at xs
  clear hl
  change xs.length ≤ 100000 at hp
  change ∀ x ∈ xs, Eng.Good (.int .u8) x at hx
  show vfun tab _ k60 Try.f60 [.sl (.int .u8) xs] [] _
  refine Ev.out ?_
  repeat' (first | ((with_reducible refine Ev.mk ?_); conv => whnf) | (with_reducible refine And.intro ?_ ?_) | (intro h))
  all_goals (try simp only [decide_eq_true_eq, decide_eq_false_iff_not, beq_iff_eq, bne_iff_ne, beq_eq_false_iff_ne, bne_eq_false_iff_eq, Int.toNat_natCast, ge_iff_le, gt_iff_lt, Bool.not_eq_true', Bool.not_eq_false', Int.not_lt, Int.not_le, ne_eq] at *)
  all_goals (try dsimp only [Ty.den, Ty.dflt, BT, sBCloneO] at *)
  all_goals (try simp only [eq4, ne4, eq3, ne3, eq2, ne2, Prod.eta, List.length_cons, List.length_nil, List.length_append, Nat.zero_add] at *)
  all_goals (try simp (disch := omega) only [wrap64] at *)
  all_goals try first | exact leafDraw (by kernel_rfl) | exact Leaf.mk trivial | (refine Leaf.mk ?_; omega) | (refine Leaf.mk ?_; unfold maxLen; omega)
  refine LoopVC.on (fun _ => []) (fun n : Nat => [(0, .arr 5 (.int .u8) (xs.take n))]) (fun n => n ≤ xs.length ∧ behN xs xs.length = behN xs n) (fun n => n) xs.length ?_ ⟨Nat.le_refl _, rfl⟩ ?_
  · rw [List.take_length]; rfl
  intro n ⟨hn, hb⟩
  have hln : (xs.take n).length = n := by rw [List.length_take]; omega
  repeat' (first | ((with_reducible refine Ev.mk ?_); conv => whnf) | (with_reducible refine And.intro ?_ ?_) | (intro h))
  all_goals (try simp only [decide_eq_true_eq, decide_eq_false_iff_not, beq_iff_eq, bne_iff_ne, beq_eq_false_iff_ne, bne_eq_false_iff_eq, Int.toNat_natCast, ge_iff_le, gt_iff_lt, Bool.not_eq_true', Bool.not_eq_false', Int.not_lt, Int.not_le, ne_eq] at *)
  all_goals (try dsimp only [Ty.den, Ty.dflt, BT] at *)
  all_goals (try simp only [eq4, ne4, eq3, ne3, eq2, ne2, Prod.eta, List.length_cons, List.length_nil, List.length_append, Nat.zero_add] at *)
  all_goals (try simp (disch := omega) only [wrap64] at *)
  all_goals (try simp only [hln] at *)
  all_goals try first | exact leafDraw (by kernel_rfl) | exact Leaf.mk trivial | (refine Leaf.mk ?_; omega) | (refine Leaf.mk ?_; unfold maxLen; omega)
  · obtain ⟨m, rfl⟩ : ∃ m, n = m + 1 := ⟨n - 1, by omega⟩
    have e : (((m + 1 : Nat) : Int) - 1).toNat = m := by omega
    rw [e, getD_take xs (by omega)] at h
    refine Leaf.mk ⟨m, ?_, ⟨by omega, ?_⟩, by omega⟩
    · rw [e, List.take_take, show min m (m + 1) = m by omega]; rfl
    · rw [hb, behN, if_pos h]
  · obtain ⟨m, rfl⟩ : ∃ m, n = m + 1 := ⟨n - 1, by omega⟩
    have e : (((m + 1 : Nat) : Int) - 1).toNat = m := by omega
    rw [e, getD_take xs (by omega)] at h
    have hm := byte_at hx (i := m) (by omega)
    rw [behN, if_neg h] at hb
    have hB : behL xs = (xs.take m ++ [xs.getD m 0 + 1], true) := by unfold behL; rw [hb]
    rw [e, getD_take xs (by omega), take_set xs (by omega), wrapU8, show (xs.getD m 0 + 1) % 256 = xs.getD m 0 + 1 by omega]
    refine Leaf.mk (ret2 ?_ ?_)
    · show _ = (behL xs).1
      rw [hB]
    · show _ = (behL xs).2
      rw [hB]
  · obtain rfl : n = 0 := by omega
    have hB : behL xs = ([], false) := by unfold behL; rw [hb]; rfl
    refine Leaf.mk (ret2 ?_ ?_)
    · show _ = (behL xs).1
      rw [hB]
    · show _ = (behL xs).2
      rw [hB]
def cmpL : List Int → List Int → Int
  | [], [] => 0
  | [], _ :: _ => -1
  | _ :: _, [] => 1
  | x :: r, y :: t => if x < y then -1 else if y < x then 1 else cmpL r t
end Go.Proofs.Ytbobjiaggngbmaa

set_option linter.unusedVariables false
set_option linter.unusedSimpArgs false
namespace Go.Proofs.Ytbobjiaggngbmaa
open Go.Eng
def txt : List Int → List Int → Nat → List Int × Int × Int
  | [], _, _ => ([], 0, 3)
  | c :: r, acc, p => if c = 0 then match r with
      | [] => ([], 0, 3)
      | d :: t => if d = 1 then (acc, ((p + 2 : Nat) : Int), 0) else if d = 255 then txt t (acc ++ [0]) (p + 2) else ([], 0, 4)
    else txt r (acc ++ [c]) (p + 1)
theorem txt_ne {c : Int} (h : ¬ c = 0) (r acc : List Int) (p : Nat) : txt (c :: r) acc p = txt r (acc ++ [c]) (p + 1) := by
  conv => lhs; rw [txt.eq_def]
  exact if_neg h
theorem txt_end {c : Int} (h : c = 0) (acc : List Int) (p : Nat) : txt [c] acc p = ([], 0, 3) := by
  conv => lhs; rw [txt.eq_def]
  exact if_pos h
theorem txt_esc {c : Int} (h : c = 0) (d : Int) (t acc : List Int) (p : Nat) : txt (c :: d :: t) acc p = if d = 1 then (acc, ((p + 2 : Nat) : Int), 0) else if d = 255 then txt t (acc ++ [0]) (p + 2) else ([], 0, 4) := by
  conv => lhs; rw [txt.eq_def]
  exact if_pos h
theorem byte_mem {xs : List Int} (hx : ∀ x ∈ xs, Eng.Good (.int .u8) x) {x : Int} (h : x ∈ xs) : 0 ≤ x ∧ x ≤ 255 := bdu8 (hx x h)
theorem byte_eq {c : Int} (h : 0 ≤ c ∧ c ≤ 255) : (UInt8.ofNat c.toNat == Nat.toUInt8 0) = decide (c = 0) := by
  obtain ⟨n, rfl⟩ := Int.eq_ofNat_of_zero_le h.1
  have h2 : n ≤ 255 := by omega
  clear h
  have : ∀ m : Fin 256, (UInt8.ofNat ((m.val : Nat) : Int).toNat == Nat.toUInt8 0) = decide (((m.val : Nat) : Int) = 0) := by decide +kernel
  exact this ⟨n, by omega⟩
theorem idx_out : ∀ (r : List Int), (∀ x ∈ r, 0 ≤ x ∧ x ≤ 255) →
    (Lib.indexByte (strOfBytes r) (Nat.toUInt8 0) = -1 ∧ ∀ acc p, txt r acc p = ([], 0, 3)) ∨
    (∃ k : Nat, Lib.indexByte (strOfBytes r) (Nat.toUInt8 0) = k ∧ k < r.length ∧ r.getD k 0 = 0 ∧ ∀ acc p, txt r acc p = txt (r.drop k) (acc ++ r.take k) (p + k))
  | [], _ => .inl ⟨rfl, fun acc p => rfl⟩
  | c :: r, h => by
    have hc := byte_eq (h c (by simp))
    have ih := idx_out r (fun x hx => h x (by simp [hx]))
    have e : Lib.indexByte (strOfBytes (c :: r)) (Nat.toUInt8 0) = if c = 0 then 0 else if Lib.indexByte (strOfBytes r) (Nat.toUInt8 0) == -1 then -1 else Lib.indexByte (strOfBytes r) (Nat.toUInt8 0) + 1 := by
      show (if (UInt8.ofNat c.toNat == Nat.toUInt8 0) = true then _ else _) = _
      rw [hc]
      simp only [decide_eq_true_eq]
      rfl
    rw [e]
    by_cases h0 : c = 0
    · rw [if_pos h0]
      exact .inr ⟨0, rfl, by simp, h0, fun acc p => by simp⟩
    · rw [if_neg h0]
      rcases ih with ⟨h1, h2⟩ | ⟨k, h1, h2, h3, h4⟩
      · rw [h1]
        exact .inl ⟨rfl, fun acc p => by rw [txt_ne h0, h2]⟩
      · rw [h1]
        refine .inr ⟨k + 1, ?_, by simpa using h2, by simpa using h3, fun acc p => ?_⟩
        · rw [if_neg (by simp)]; first | rfl | omega
        · rw [txt_ne h0, h4]
          simp only [List.drop_succ_cons, List.take_succ_cons, List.append_assoc, List.singleton_append]
          rw [show p + 1 + k = p + (k + 1) by omega]
theorem tn2 (i k : Nat) : ((i : Int) + (k : Int)).toNat = i + k := by omega
theorem tn3 (i k : Nat) : ((i : Int) + ((k : Int) + 2) - 1).toNat = i + k + 1 := by omega
theorem idx_xs {xs : List Int} (hx : ∀ x ∈ xs, 0 ≤ x ∧ x ≤ 255) {i : Nat} (hi : i ≤ xs.length) :
    (Lib.indexByte (strOfBytes (xs.drop i)) (Nat.toUInt8 0) = -1 ∧ ∀ acc p, txt (xs.drop i) acc p = ([], 0, 3)) ∨
    (∃ k : Nat, Lib.indexByte (strOfBytes (xs.drop i)) (Nat.toUInt8 0) = k ∧ i + k < xs.length ∧ xs.getD (i + k) 0 = 0 ∧ ((xs.take (i + k)).drop i).length = k ∧ ∀ acc p, txt (xs.drop i) acc p = txt (xs.drop (i + k)) (acc ++ (xs.take (i + k)).drop i) (p + k)) := by
  rcases idx_out (xs.drop i) (fun x h => hx x (List.mem_of_mem_drop h)) with h | ⟨k, h1, h2, h3, h4⟩
  · exact .inl h
  · rw [List.length_drop] at h2
    refine .inr ⟨k, h1, by omega, ?_, by rw [List.length_drop, List.length_take]; omega, fun acc p => ?_⟩
    · rw [List.getD_eq_getElem?_getD, List.getElem?_drop] at h3
      rw [List.getD_eq_getElem?_getD]; exact h3
    · rw [h4, List.drop_drop, List.drop_take, Nat.add_sub_cancel_left]
def getText (xs : List Int) : List UInt8 × Int × Int := (strOfBytes (txt xs [] 0).1, (txt xs [] 0).2.1, (txt xs [] 0).2.2)
def sGetText : PSpec := ⟨[.d BT], [⟨false, [.d .str]⟩, ⟨false, [.d (.int .i64)]⟩, ⟨false, [.d (.int .i64)]⟩], fun x => x.1.length ≤ 100000, fun x => (((getText x.1).1, ()), ((getText x.1).2.1, ()), ((getText x.1).2.2, ()), ())⟩
theorem fGetText : FnOk Try.prog 76 := ⟨_, Try.func76, by decide, rfl⟩
theorem pGetText : PSound Try.prog 76 sGetText := by
  refine psound (T := tab) (S := (spOf [(85, sIndexByte.spec (lsOf []))])) (keep := k76) (by kernel_rfl) tabOk (spCons (pOk pIndexByte fIndexByte (by decide) lsNil) spNil) (by kernel_rfl) Try.func76 (by kernel_rfl) (by decide) fun xs hg hp => ?_
  obtain ⟨xs, ⟨⟩⟩ := xs
  obtain ⟨⟨hl, hx⟩, -⟩ := hg
  change List Int at xs
  clear hl
  change xs.length ≤ 100000 at hp
  change ∀ x ∈ xs, Eng.Good (.int .u8) x at hx
  show vfun tab _ k76 Try.f76 [.sl (.int .u8) xs] [] _
  refine Ev.out ?_
  repeat' (first | ((with_reducible refine Ev.mk ?_); conv => whnf) | (with_reducible refine And.intro ?_ ?_) | (intro h))
  all_goals (try simp only [decide_eq_true_eq, decide_eq_false_iff_not, beq_iff_eq, bne_iff_ne, beq_eq_false_iff_ne, bne_eq_false_iff_eq, Int.toNat_natCast, ge_iff_le, gt_iff_lt, Bool.not_eq_true', Bool.not_eq_false', Int.not_lt, Int.not_le, ne_eq] at *)
  all_goals (try dsimp only [Ty.den, Ty.dflt, BT] at *)
  all_goals (try simp only [eq4, ne4, eq3, ne3, eq2, ne2, Prod.eta, List.length_cons, List.length_nil, List.length_append, Nat.zero_add] at *)
  all_goals (try simp (disch := omega) only [wrap64] at *)
  all_goals try first | exact leafDraw (by kernel_rfl) | exact Leaf.mk trivial | (refine Leaf.mk ?_; omega) | (refine Leaf.mk ?_; unfold maxLen; omega)
  refine LoopVC.weak [(.slot 5, .nil 5 (.int .u8))] (fun a : Nat × List Int => [(6, .i .i64 a.1)]) (fun a => [(0, .arr 5 (.int .u8) a.2)]) (fun a => a.1 ≤ xs.length ∧ a.2.length ≤ a.1 ∧ txt xs [] 0 = txt (xs.drop a.1) a.2 a.1) (fun a => xs.length - a.1) (0, []) (Ev.mk ?_)
  (conv => whnf)
  refine ⟨Leaf.mk ?_, Leaf.mk ?_, ?_⟩
  · rfl
  · exact ⟨by omega, by simp, rfl⟩
  intro ⟨i, acc⟩ ⟨hi, ha, ht⟩
  dsimp only at hi ha ht
  have hk := idx_xs (fun x h => byte_mem hx h) hi
  repeat' (first | ((with_reducible refine Ev.mk ?_); conv => whnf) | (with_reducible refine And.intro ?_ ?_) | (intro h))
  all_goals (try dsimp only [sIndexByte] at *)
  all_goals (try simp only [Int.reduceToNat, Int.toNat_natCast, List.take_length] at *)
  all_goals (rcases hk with ⟨k1, k2⟩ | ⟨k, k1, k2, k3, k5, k4⟩ <;> simp only [k1] at *)
  all_goals (try simp only [decide_eq_true_eq, decide_eq_false_iff_not, beq_iff_eq, bne_iff_ne, beq_eq_false_iff_ne, bne_eq_false_iff_eq, Int.toNat_natCast, ge_iff_le, gt_iff_lt, Bool.not_eq_true', Bool.not_eq_false', Int.not_lt, Int.not_le, ne_eq] at *)
  all_goals (try dsimp only [Ty.den, Ty.dflt, BT, sIndexByte] at *)
  all_goals (try simp only [eq4, ne4, eq3, ne3, eq2, ne2, Prod.eta, List.length_cons, List.length_nil, List.length_append, Nat.zero_add] at *)
  all_goals (try simp (disch := omega) only [wrap64] at *)
  all_goals (try simp only [tn2, tn3] at *)
  all_goals try first | exact leafDraw (by kernel_rfl) | exact Leaf.mk trivial | (refine Leaf.mk ?_; omega) | (refine Leaf.mk ?_; unfold maxLen; omega)
  · rw [k2] at ht
    refine Leaf.mk (ret3 ?_ ?_ ?_) <;> (dsimp only [getText]; rw [ht]) <;> rfl
  · rw [k4, drop_at 0 (by omega), List.drop_eq_nil_of_le (by omega), txt_end k3] at ht
    refine Leaf.mk (ret3 ?_ ?_ ?_) <;> (dsimp only [getText]; rw [ht]) <;> rfl
  all_goals (try (refine Leaf.mk ?_; rw [k5]; first | omega | (unfold maxLen; omega)))
  · rw [k4, drop_at 0 (by omega), drop_at 0 (show i + k + 1 < xs.length by omega), txt_esc k3, if_pos h] at ht
    refine Leaf.mk (ret3 ?_ ?_ ?_) <;> (dsimp only [getText]; rw [ht]) <;> first | rfl | (dsimp only; omega)
  · rename_i hn
    rw [k4, drop_at 0 (by omega), drop_at 0 (show i + k + 1 < xs.length by omega), txt_esc k3, if_neg hn, if_pos h] at ht
    refine Leaf.mk ⟨(i + k + 2, acc ++ (xs.take (i + k)).drop i ++ [0]), ?_, ⟨by dsimp only; omega, by dsimp only; simp only [List.length_append, k5, List.length_singleton]; omega, ht⟩, by dsimp only; omega⟩
    rw [show (i : Int) + ((k : Int) + 2) = ((i + k + 2 : Nat) : Int) by omega]; rfl
  · rename_i hn
    rw [k4, drop_at 0 (by omega), drop_at 0 (show i + k + 1 < xs.length by omega), txt_esc k3, if_neg hn, if_neg h] at ht
    refine Leaf.mk (ret3 ?_ ?_ ?_) <;> (dsimp only [getText]; rw [ht]) <;> rfl
  all_goals (rw [List.drop_eq_nil_of_le (by omega)] at ht; refine Leaf.mk (ret3 ?_ ?_ ?_) <;> (dsimp only [getText]; rw [ht]) <;> rfl)
end Go.Proofs.Ytbobjiaggngbmaa

set_option linter.unusedVariables false
set_option linter.unusedSimpArgs false
namespace Go.Proofs.Ytbobjiaggngbmaa
open Go.Eng
abbrev RP : List RK := [.d BT, .d (.int .i64)]
def sNew : NSpec := ⟨[.d BT], RP, fun x => x.1.length ≤ 100000, fun x => (x.1, 0, ())⟩
theorem fNew : FnOk Try.prog 50 := ⟨_, Try.func50, by decide, rfl⟩
theorem pNew : NSound Try.prog 50 sNew := by
  refine nsound (T := tab) (S := (spOf [(73, sBClone.spec (lsOf []))])) (keep := k50) (by kernel_rfl) tabOk (spCons (pOk pBClone fBClone (by decide) lsNil) spNil) (by kernel_rfl) Try.func50 rfl (by kernel_rfl) (by decide) fun xs hg hp => ?_
  obtain ⟨xs, ⟨⟩⟩ := xs
  change List Int at xs
  change xs.length ≤ 100000 at hp
  show vfun tab _ k50 Try.f50 [.sl (.int .u8) xs] [] _
  refine Ev.out ?_
  repeat' (first | ((with_reducible refine Ev.mk ?_); conv => whnf) | (with_reducible refine And.intro ?_ ?_) | (intro h))
  all_goals (try simp only [decide_eq_true_eq, decide_eq_false_iff_not, beq_iff_eq, bne_iff_ne, beq_eq_false_iff_ne, bne_eq_false_iff_eq, Int.toNat_natCast, ge_iff_le, gt_iff_lt, Bool.not_eq_true', Bool.not_eq_false', Int.not_lt, Int.not_le, ne_eq] at *)
  all_goals (try dsimp only [Ty.den, Ty.dflt, BT, sBClone] at *)
  all_goals (try simp only [eq4, ne4, eq3, ne3, eq2, ne2, Prod.eta, List.length_cons, List.length_nil, List.length_append, Nat.zero_add] at *)
  all_goals (try simp (disch := omega) only [wrap64] at *)
  all_goals try first | exact leafDraw (by kernel_rfl) | exact Leaf.mk trivial | (refine Leaf.mk ?_; omega) | (refine Leaf.mk ?_; unfold maxLen; omega)
  · exact Leaf.mk rfl
def sState : MSpec := ⟨[.m RP], [⟨false, [.d (.int .i64)]⟩], fun _ => True, fun x => ((x.1.2.1, ()), x.1, ())⟩
theorem fState : FnOk Try.prog 74 := ⟨_, Try.func74, by decide, rfl⟩
theorem pState : SpecOk Try.prog 74 sState.spec := by
  refine mOk (T := tab) (S := (spOf [])) (keep := k74m) tabOk spNil (by kernel_rfl) Try.func74 (by kernel_rfl) (by kernel_rfl) (by decide) fun xs hg hp => ?_
  obtain ⟨⟨b, e, ⟨⟩⟩, ⟨⟩⟩ := xs
  change List Int at b
  change Int at e
  show vfunM tab _ k74m Try.f74 [.ptr 0 0] [(0, .box [.sl (.int .u8) b, .i .i64 e])] _
  refine Ev.out ?_
  repeat' (first | ((with_reducible refine Ev.mk ?_); conv => whnf) | (with_reducible refine And.intro ?_ ?_) | (intro h))
  all_goals exact Leaf.mk rfl
theorem txt_bd : ∀ (n : Nat) (xs acc : List Int) (p : Nat), xs.length ≤ n → 0 ≤ (txt xs acc p).2.1 ∧ (txt xs acc p).2.1 ≤ ((p + xs.length : Nat) : Int)
  | _, [], acc, p, _ => ⟨Int.le_refl _, by show (0 : Int) ≤ _; omega⟩
  | 0, _ :: _, _, _, h => by simp at h
  | n + 1, c :: r, acc, p, h => by
    simp only [List.length_cons] at h
    by_cases hc : c = 0
    · cases r with
      | nil => rw [txt_end hc]; exact ⟨Int.le_refl _, by show (0 : Int) ≤ _; omega⟩
      | cons d t =>
        simp only [List.length_cons] at h
        rw [txt_esc hc]
        split
        · simp only [List.length_cons]; omega
        · split
          · have := txt_bd n t (acc ++ [0]) (p + 2) (by omega)
            simp only [List.length_cons]; omega
          · exact ⟨Int.le_refl _, by show (0 : Int) ≤ _; omega⟩
    · rw [txt_ne hc]
      have := txt_bd n r (acc ++ [c]) (p + 1) (by omega)
      simp only [List.length_cons]; omega
theorem getText_bd (b : List Int) : 0 ≤ (getText b).2.1 ∧ (getText b).2.1 ≤ (b.length : Int) := by
  have := txt_bd b.length b [] 0 (Nat.le_refl _)
  simpa [getText] using this
theorem putR {α : Type} {u v : α × List Int × Int} (h : u = v) : (some ((u.1, ()), (u.2.1, u.2.2, ()), ()) : Option ((α × Unit) × (List Int × Int × Unit) × Unit)) = some ((v.1, ()), (v.2.1, v.2.2, ()), ()) := by rw [h]
theorem getSmall_bd {b : List Int} (hx : ∀ x ∈ b, Eng.Good (.int .u8) x) : (0 ≤ (getSmall b).2.1 ∧ (getSmall b).2.1 ≤ (b.length : Int)) ∧ 0 ≤ (getSmall b).1 := by
  have h0 := byte0 hx 0
  have hn := numB_bd ((b.take (b.getD 0 0 + 1).toNat).drop 1)
  unfold getSmall
  split
  · simp
  · split
    · simp
    · split
      · simp
      · split
        · simp
        · refine ⟨⟨?_, ?_⟩, hn.1⟩ <;> dsimp only <;> omega
def rdText (b : List Int) (e most : Int) : List UInt8 × List Int × Int :=
  if ¬ e = 0 then ([], b, e) else if ¬ (getText b).2.2 = 0 then ([], b, (getText b).2.2)
  else if (if 0 < most then most else 0) < ((getText b).1.length : Int) then ([], b, 5) else ((getText b).1, b.drop (getText b).2.1.toNat, 0)
def sText : MSpec := ⟨[.m RP, .d (.int .i64)], [⟨false, [.d .str]⟩], fun x => x.1.1.length ≤ 100000, fun x => (((rdText x.1.1 x.1.2.1 x.2.1).1, ()), ((rdText x.1.1 x.1.2.1 x.2.1).2.1, (rdText x.1.1 x.1.2.1 x.2.1).2.2, ()), ())⟩
theorem fText : FnOk Try.prog 52 := ⟨_, Try.func52, by decide, rfl⟩
theorem pText : SpecOk Try.prog 52 sText.spec := by
  refine mOk (T := tab) (S := (spOf [(74, sState.spec), (76, sGetText.spec (lsOf []))])) (keep := k52m) tabOk (spCons (.inl ⟨pState, fState⟩) (spCons (pOk pGetText fGetText (by decide) lsNil) spNil)) (by kernel_rfl) Try.func52 (by kernel_rfl) (by kernel_rfl) (by decide) fun xs hg hp => ?_
  obtain ⟨⟨b, e, ⟨⟩⟩, most, ⟨⟩⟩ := xs
  change List Int at b
  change Int at e
  change Int at most
  change b.length ≤ 100000 at hp
  show vfunM tab _ k52m Try.f52 [.ptr 0 0, .i .i64 most] [(0, .box [.sl (.int .u8) b, .i .i64 e])] _
  refine Ev.out ?_
  repeat' (first | ((with_reducible refine Ev.mk ?_); conv => whnf) | (with_reducible refine And.intro ?_ ?_) | (intro h))
  all_goals (try simp only [decide_eq_true_eq, decide_eq_false_iff_not, beq_iff_eq, bne_iff_ne, beq_eq_false_iff_ne, bne_eq_false_iff_eq, Int.toNat_natCast, ge_iff_le, gt_iff_lt, Bool.not_eq_true', Bool.not_eq_false', Int.not_lt, Int.not_le, ne_eq] at *)
  all_goals (try dsimp only [Ty.den, Ty.dflt, BT, sState, sGetText] at *)
  all_goals (try simp only [eq4, ne4, eq3, ne3, eq2, ne2, Prod.eta, List.length_cons, List.length_nil, List.length_append, Nat.zero_add] at *)
  all_goals (try simp (disch := omega) only [wrap64] at *)
  all_goals have hb := getText_bd b
  all_goals try first | exact leafDraw (by kernel_rfl) | exact Leaf.mk trivial | (refine Leaf.mk ?_; omega) | (refine Leaf.mk ?_; unfold maxLen; omega)
  · refine Leaf.mk (putR (u := ([], b, e)) (v := rdText b e most) ?_)
    rw [rdText, if_pos h]
  · rename_i h1 h2 h3
    refine Leaf.mk (putR (u := ([], b, 5)) (v := rdText b e most) ?_)
    rw [rdText, if_neg (fun hh => hh h1), if_neg (fun hh => hh h2), if_pos h3]
  · rename_i h1 h2 h3
    rw [List.take_length]
    refine Leaf.mk (putR (u := ((getText b).1, b.drop (getText b).2.1.toNat, e)) (v := rdText b e most) ?_)
    rw [rdText, if_neg (fun hh => hh h1), if_neg (fun hh => hh h2), if_neg (by omega), h1]
  · rename_i h1 h2
    refine Leaf.mk (putR (u := ([], b, (getText b).2.2)) (v := rdText b e most) ?_)
    rw [rdText, if_neg (fun hh => hh h1), if_pos h2]
def rdSmall (b : List Int) (e : Int) : Int × List Int × Int :=
  if ¬ e = 0 then (0, b, e) else if ¬ (getSmall b).2.2 = 0 then (0, b, (getSmall b).2.2)
  else if 1099511627776 < (getSmall b).1 then (0, b, 9) else ((getSmall b).1, b.drop (getSmall b).2.1.toNat, 0)
def sSmall : MSpec := ⟨[.m RP], [⟨false, [.d (.int .i64)]⟩], fun x => x.1.1.length ≤ 100000, fun x => (((rdSmall x.1.1 x.1.2.1).1, ()), ((rdSmall x.1.1 x.1.2.1).2.1, (rdSmall x.1.1 x.1.2.1).2.2, ()), ())⟩
theorem fSmall : FnOk Try.prog 51 := ⟨_, Try.func51, by decide, rfl⟩
theorem pSmall : SpecOk Try.prog 51 sSmall.spec := by
  refine mOk (T := tab) (S := (spOf [(74, sState.spec), (75, sGetSmall.spec (lsOf []))])) (keep := k51m) tabOk (spCons (.inl ⟨pState, fState⟩) (spCons (pOk pGetSmall fGetSmall (by decide) lsNil) spNil)) (by kernel_rfl) Try.func51 (by kernel_rfl) (by kernel_rfl) (by decide) fun xs hg hp => ?_
  obtain ⟨⟨b, e, ⟨⟩⟩, ⟨⟩⟩ := xs
  change List Int at b
  change Int at e
  change b.length ≤ 100000 at hp
  obtain ⟨⟨⟨hl, hx⟩, -⟩, -⟩ := hg
  clear hl
  change ∀ x ∈ b, Eng.Good (.int .u8) x at hx
  have hb0 := getSmall_bd hx
  clear hx
  show vfunM tab _ k51m Try.f51 [.ptr 0 0] [(0, .box [.sl (.int .u8) b, .i .i64 e])] _
  refine Ev.out ?_
  repeat' (first | ((with_reducible refine Ev.mk ?_); conv => whnf) | (with_reducible refine And.intro ?_ ?_) | (intro h))
  all_goals (try simp only [decide_eq_true_eq, decide_eq_false_iff_not, beq_iff_eq, bne_iff_ne, beq_eq_false_iff_ne, bne_eq_false_iff_eq, Int.toNat_natCast, ge_iff_le, gt_iff_lt, Bool.not_eq_true', Bool.not_eq_false', Int.not_lt, Int.not_le, ne_eq] at *)
  all_goals (try dsimp only [Ty.den, Ty.dflt, BT, sState, sGetSmall] at *)
  all_goals (try simp only [eq4, ne4, eq3, ne3, eq2, ne2, Prod.eta, List.length_cons, List.length_nil, List.length_append, Nat.zero_add] at *)
  all_goals (try simp (disch := omega) only [wrap64] at *)
  all_goals try first | exact leafDraw (by kernel_rfl) | exact Leaf.mk trivial | (refine Leaf.mk ?_; omega) | (refine Leaf.mk ?_; unfold maxLen; omega)
  · refine Leaf.mk (putR (u := (0, b, e)) (v := rdSmall b e) ?_)
    rw [rdSmall, if_pos h]
  · rename_i h1 h2 h3
    refine Leaf.mk (putR (u := (0, b, 9)) (v := rdSmall b e) ?_)
    rw [rdSmall, if_neg (fun hh => hh h1), if_neg (fun hh => hh h2), if_pos h3]
  · rename_i h1 h2 h3
    rw [List.take_length]
    refine Leaf.mk (putR (u := ((getSmall b).1, b.drop (getSmall b).2.1.toNat, e)) (v := rdSmall b e) ?_)
    rw [rdSmall, if_neg (fun hh => hh h1), if_neg (fun hh => hh h2), if_neg (by omega), h1]
  · rename_i h1 h2
    refine Leaf.mk (putR (u := (0, b, (getSmall b).2.2)) (v := rdSmall b e) ?_)
    rw [rdSmall, if_neg (fun hh => hh h1), if_pos h2]
end Go.Proofs.Ytbobjiaggngbmaa

set_option linter.unusedVariables false
set_option linter.unusedSimpArgs false
namespace Go.Proofs.Ytbobjiaggngbmaa
open Go.Eng
def isB (xs : List Int) : Prop := ∀ x ∈ xs, 0 ≤ x ∧ x ≤ 255
theorem isB_good {xs : List Int} (h : ∀ x ∈ xs, Eng.Good (.int .u8) x) : isB xs := fun x hx => byte_mem h hx
theorem isB_append {xs ys : List Int} (h : isB xs) (k : isB ys) : isB (xs ++ ys) := fun x hx => (List.mem_append.1 hx).elim (h x) (k x)
theorem isB_take {xs : List Int} (h : isB xs) (n : Nat) : isB (xs.take n) := fun x hx => h x (List.mem_of_mem_take hx)
theorem isB_str (s : List UInt8) : isB (bytesOfStr s) := fun x hx => by
  obtain ⟨c, _, rfl⟩ := List.mem_map.1 hx
  have := c.toNat_lt
  omega
theorem isB_put (s : List UInt8) : isB (putText s) := fun x hx => by
  unfold putText putB at hx
  rcases List.mem_append.1 hx with h | h
  · obtain ⟨c, hc, h⟩ := List.mem_flatMap.1 h
    have := isB_str s c hc
    unfold escI at h
    split at h <;> simp at h <;> omega
  · simp at h; omega
theorem isB_lay : ∀ (k : Nat) (n : Int), isB (layB n k)
  | 0, n => fun x hx => by simp [layB] at hx
  | k + 1, n => by
    rw [layB]
    refine isB_append (isB_lay k _) fun x hx => ?_
    simp at hx; omega
theorem isB_small (n : Int) : isB (putSmall n) := fun x hx => by
  unfold putSmall at hx
  rcases List.mem_cons.1 hx with h | h
  · have := widthN_le 8 n; omega
  · exact isB_lay _ _ x h
theorem u8_cmp {a b : Int} (ha : 0 ≤ a ∧ a ≤ 255) (hb : 0 ≤ b ∧ b ≤ 255) : (UInt8.ofNat a.toNat < UInt8.ofNat b.toNat) ↔ a < b := by
  obtain ⟨n, rfl⟩ := Int.eq_ofNat_of_zero_le ha.1
  obtain ⟨m, rfl⟩ := Int.eq_ofNat_of_zero_le hb.1
  simp only [Int.toNat_natCast]
  rw [UInt8.lt_iff_toNat_lt]
  simp only [UInt8.toNat_ofNat']
  omega
theorem cmpB_eq : ∀ (a b : List Int), isB a → isB b → Lib.compareBytes (strOfBytes a) (strOfBytes b) = cmpL a b
  | [], [], _, _ => rfl
  | [], _ :: _, _, _ => rfl
  | _ :: _, [], _, _ => rfl
  | x :: a, y :: b, ha, hb => by
    have ih := cmpB_eq a b (fun z hz => ha z (by simp [hz])) (fun z hz => hb z (by simp [hz]))
    have hx := ha x (by simp)
    have hy := hb y (by simp)
    show (if UInt8.ofNat x.toNat < UInt8.ofNat y.toNat then _ else if UInt8.ofNat y.toNat < UInt8.ofNat x.toNat then _ else Lib.compareBytes (strOfBytes a) (strOfBytes b)) = _
    rw [ih, cmpL]
    simp only [u8_cmp hx hy, u8_cmp hy hx]
theorem str_bytes (s : List UInt8) : strOfBytes (bytesOfStr s) = s := by
  unfold strOfBytes bytesOfStr
  rw [List.map_map]
  conv => rhs; rw [← List.map_id s]
  refine List.map_congr_left fun c _ => ?_
  simp
theorem cmpL_pre : ∀ (p q : List Int), cmpL (p ++ q) p = 0 ∨ cmpL (p ++ q) p = 1
  | [], [] => .inl rfl
  | [], _ :: _ => .inr rfl
  | z :: zs, q => by rw [List.cons_append, cmpL, if_neg (by omega), if_neg (by omega)]; exact cmpL_pre zs q
theorem cmpL_beg {r os : List Int} (h : os.take r.length = r) : cmpL os r = 0 ∨ cmpL os r = 1 := by
  have := cmpL_pre r (os.drop r.length)
  have e : r ++ os.drop r.length = os := by
    conv => lhs; arg 1; rw [← h]
    exact List.take_append_drop _ _
  rwa [e] at this
theorem cmpL_cons (x : Int) (a b : List Int) : cmpL (x :: a) (x :: b) = cmpL a b := by rw [cmpL, if_neg (by omega), if_neg (by omega)]
theorem putB_cons (x : Int) (xs : List Int) : putB (x :: xs) = escI x ++ putB xs := by simp [putB]
def behF : List Int → Option (List Int)
  | [] => none
  | c :: r => match behF r with
    | some y => some (c :: y)
    | none => if c = 255 then none else some [c + 1]
theorem behN_cons (c : Int) (r : List Int) : ∀ n, behN (c :: r) (n + 1) = if behN r n = 0 then (if c = 255 then 0 else 1) else behN r n + 1
  | 0 => by simp [behN]
  | n + 1 => by
    rw [behN, behN_cons c r n]
    simp only [List.getD_cons_succ]
    rw [show behN r (n + 1) = if r.getD n 0 = 255 then behN r n else n + 1 from rfl]
    split
    · rfl
    · rw [if_neg (by omega)]
theorem behL_F : ∀ (b : List Int), behL b = match behF b with | some x => (x, true) | none => ([], false)
  | [] => rfl
  | c :: r => by
    have ih := behL_F r
    have hc := behN_cons c r r.length
    unfold behL at ih ⊢
    rw [List.length_cons, hc]
    rw [behF]
    cases hn : behN r r.length with
    | zero =>
      rw [hn] at ih
      rw [if_pos rfl]
      have hN : behF r = none := by
        cases hf : behF r with
        | none => rfl
        | some y => rw [hf] at ih; simp at ih
      rw [hN]
      by_cases h : c = 255
      · simp only [if_pos h]
      · simp only [if_neg h]; simp
    | succ m =>
      rw [hn] at ih
      rw [if_neg (by omega)]
      cases hf : behF r with
      | none => rw [hf] at ih; simp at ih
      | some y =>
        rw [hf] at ih
        simp only [Prod.mk.injEq, and_true] at ih
        subst ih
        simp
theorem behF_none : ∀ {b : List Int}, isB b → behF b = none → ∀ other, isB other → (b.length ≤ other.length ∧ other.take b.length = b) ∨ cmpL other b < 0
  | [], _, _, other, _ => .inl (by simp)
  | c :: r, hb, hn, other, ho => by
    rw [behF] at hn
    cases hf : behF r with
    | some y => rw [hf] at hn; simp at hn
    | none =>
      rw [hf] at hn
      simp only at hn
      split at hn
      · rename_i h255
        cases other with
        | nil => right; simp [cmpL]
        | cons o os =>
          have h1 := ho o (by simp)
          rcases behF_none (fun z hz => hb z (by simp [hz])) hf os (fun z hz => ho z (by simp [hz])) with ⟨h2, h3⟩ | h2
          · by_cases he : o = c
            · subst he; left; simp [h2, h3]
            · right; rw [cmpL, if_pos (by omega)]; omega
          · by_cases he : o = c
            · subst he; right; rw [cmpL_cons]; exact h2
            · right; rw [cmpL, if_pos (by omega)]; omega
      · simp at hn
theorem behF_isB : ∀ {b x : List Int}, isB b → behF b = some x → isB x
  | [], _, _, h => by simp [behF] at h
  | c :: r, x, hb, h => by
    rw [behF] at h
    have h1 := hb c (by simp)
    cases hf : behF r with
    | some y =>
      rw [hf] at h
      simp at h; subst h
      have ih := behF_isB (fun z hz => hb z (by simp [hz])) hf
      intro z hz
      rcases List.mem_cons.1 hz with rfl | hz
      · exact h1
      · exact ih z hz
    | none =>
      rw [hf] at h
      simp only at h
      split at h
      · simp at h
      · simp at h; subst h
        intro z hz; simp at hz; omega
theorem behF_long : ∀ {b x : List Int} (more : List Int), behF b = some x → cmpL (b ++ more) x < 0
  | [], _, _, h => by simp [behF] at h
  | c :: r, x, more, h => by
    rw [behF] at h
    cases hf : behF r with
    | some y =>
      rw [hf] at h
      simp at h; subst h
      rw [List.cons_append, cmpL_cons]
      exact behF_long more hf
    | none =>
      rw [hf] at h
      simp only at h
      split at h
      · simp at h
      · simp at h; subst h
        rw [List.cons_append, cmpL, if_pos (by omega)]; omega
theorem behF_some : ∀ {b x : List Int}, isB b → behF b = some x → ∀ other, isB other → ((0 ≤ cmpL other b ∧ cmpL other x < 0) ↔ (b.length ≤ other.length ∧ other.take b.length = b))
  | [], _, _, h, _, _ => by simp [behF] at h
  | c :: r, x, hb, h, other, ho => by
    rw [behF] at h
    cases other with
    | nil => simp [cmpL]
    | cons o os =>
      have h1 := ho o (by simp)
      have hos : isB os := fun z hz => ho z (by simp [hz])
      have hbr : isB r := fun z hz => hb z (by simp [hz])
      cases hf : behF r with
      | some y =>
        rw [hf] at h
        simp at h; subst h
        have ih := behF_some hbr hf os hos
        by_cases he : o = c
        · subst he
          rw [cmpL_cons, cmpL_cons, ih]; simp
        · rw [cmpL, cmpL]
          by_cases hl : o < c
          · rw [if_pos hl]; simp [he]
          · rw [if_neg hl, if_pos (by omega), if_neg hl, if_pos (by omega)]; simp [he]
      | none =>
        rw [hf] at h
        simp only at h
        split at h
        · simp at h
        · rename_i h255
          simp at h; subst h
          rcases behF_none hbr hf os hos with ⟨h2, h3⟩ | h2
          · by_cases he : o = c
            · subst he
              have h4 : 0 ≤ cmpL os r := by have := cmpL_beg h3; omega
              rw [cmpL_cons, cmpL, if_pos (by omega)]
              simp [h2, h3, h4]
            · rw [cmpL, cmpL]
              by_cases hl : o < c
              · rw [if_pos hl]; simp [he]
              · rw [if_neg hl, if_pos (by omega), if_neg (by omega)]
                simp only [List.length_cons, List.take_succ_cons, List.cons.injEq, he, false_and, and_false, iff_false]
                split
                · omega
                · intro hc
                  cases os <;> simp [cmpL] at hc
          · by_cases he : o = c
            · subst he
              rw [cmpL_cons]
              constructor
              · intro hc; omega
              · intro hc
                exfalso
                simp at hc
                have := cmpL_beg hc.2
                omega
            · rw [cmpL, cmpL]
              by_cases hl : o < c
              · rw [if_pos hl]; simp [he]
              · rw [if_neg hl, if_pos (by omega), if_neg (by omega)]
                simp only [List.length_cons, List.take_succ_cons, List.cons.injEq, he, false_and, and_false, iff_false]
                split
                · omega
                · intro hc
                  cases os <;> simp [cmpL] at hc
end Go.Proofs.Ytbobjiaggngbmaa

set_option linter.unusedVariables false
set_option linter.unusedSimpArgs false
namespace Go.Proofs.Ytbobjiaggngbmaa
open Go.Eng
theorem p8 : (256 : Int) ^ 8 = 18446744073709551616 := by decide
theorem widthN_zero : ∀ f, widthN f 0 = 0
  | 0 => rfl
  | f + 1 => by rw [widthN, if_neg (by omega)]
theorem widthN_hi : ∀ (f : Nat) (n : Int), 0 ≤ n → n < 256 ^ f → n < 256 ^ (widthN f n)
  | 0, n, h1, h2 => h2
  | f + 1, n, h1, h2 => by
    rw [Int.pow_succ] at h2
    rw [widthN]
    split
    · have := widthN_hi f (n / 256) (by omega) (Int.ediv_lt_of_lt_mul (by decide) h2)
      rw [Int.pow_succ]; omega
    · rw [Int.pow_zero]; omega
theorem widthN_lo : ∀ (f : Nat) (n : Int), 0 < n → n < 256 ^ f → ∃ w, widthN f n = w + 1 ∧ 256 ^ w ≤ n
  | 0, n, h1, h2 => by rw [Int.pow_zero] at h2; omega
  | f + 1, n, h1, h2 => by
    rw [Int.pow_succ] at h2
    rw [widthN, if_pos h1]
    refine ⟨_, rfl, ?_⟩
    by_cases h0 : n / 256 = 0
    · rw [h0, widthN_zero, Int.pow_zero]; omega
    · obtain ⟨w, hw, hl⟩ := widthN_lo f (n / 256) (by omega) (Int.ediv_lt_of_lt_mul (by decide) h2)
      rw [hw, Int.pow_succ]; omega
theorem txt_put (b : List Int) : ∀ (xs acc : List Int) (p : Nat), txt (putB xs ++ b) acc p = (acc ++ xs, ((p + (putB xs).length : Nat) : Int), 0)
  | [], acc, p => by
    show txt (0 :: 1 :: b) acc p = _
    rw [txt_esc rfl, if_pos rfl, List.append_nil]; rfl
  | x :: xs, acc, p => by
    rw [putB_cons, List.append_assoc]
    unfold escI
    by_cases h : x = 0
    · rw [if_pos h]
      show txt (0 :: 255 :: (putB xs ++ b)) acc p = _
      rw [txt_esc rfl, if_neg (by omega), if_pos rfl, txt_put b xs]
      subst h
      simp only [List.append_assoc, List.cons_append, List.nil_append, List.length_cons]
      congr 3; omega
    · rw [if_neg h]
      show txt (x :: (putB xs ++ b)) acc p = _
      rw [txt_ne h, txt_put b xs]
      simp only [List.append_assoc, List.cons_append, List.nil_append, List.length_cons]
      congr 3; omega
theorem getText_put (s : List UInt8) (b : List Int) : getText (putText s ++ b) = (s, (((putText s).length : Nat) : Int), 0) := by
  unfold getText putText
  rw [txt_put]
  simp [str_bytes]
theorem numB_lay : ∀ (k : Nat) (n : Int), 0 ≤ n → n < 256 ^ k → n ≤ 18446744073709551615 → numB (layB n k) = n
  | 0, n, h1, h2, _ => by rw [Int.pow_zero] at h2; rw [show n = 0 by omega]; rfl
  | k + 1, n, h1, h2, h3 => by
    rw [Int.pow_succ] at h2
    have ih := numB_lay k (n / 256) (by omega) (Int.ediv_lt_of_lt_mul (by decide) h2) (by omega)
    unfold numB at ih ⊢
    rw [layB, List.foldl_append, ih]
    simp only [List.foldl_cons, List.foldl_nil]
    omega
theorem lay_head {n : Int} (hn : 0 < n) (h : n ≤ 18446744073709551615) : ∃ c r w, widthN 8 n = w + 1 ∧ layB n (widthN 8 n) = c :: r ∧ ¬ c = 0 := by
  obtain ⟨w, hw, hl⟩ := widthN_lo 8 n hn (by rw [p8]; omega)
  have hh := widthN_hi 8 n (by omega) (by rw [p8]; omega)
  rw [hw, Int.pow_succ] at hh
  refine ⟨_, _, w, hw, by rw [hw, layB_top], ?_⟩
  have hp : (0 : Int) < 256 ^ w := Int.pow_pos (by decide)
  have h1 : 1 ≤ n / 256 ^ w := by rw [Int.le_ediv_iff_mul_le hp]; omega
  have h2 : n / 256 ^ w < 256 := Int.ediv_lt_of_lt_mul hp (by omega)
  omega
theorem getSmall_put {n : Int} (hn : 0 ≤ n ∧ n ≤ 18446744073709551615) (b : List Int) : getSmall (putSmall n ++ b) = (n, (((putSmall n).length : Nat) : Int), 0) := by
  have hw := widthN_le 8 n
  have hl : (layB n (widthN 8 n)).length = widthN 8 n := layB_len _ _
  have h0 : (putSmall n ++ b).getD 0 0 = ((widthN 8 n : Nat) : Int) := by unfold putSmall; simp
  have hlen : (putSmall n).length = widthN 8 n + 1 := by unfold putSmall; simp [hl]
  have h1 : ¬ (0 < ((widthN 8 n : Nat) : Int) ∧ (putSmall n ++ b).getD 1 0 = 0) := by
    intro ⟨p, q⟩
    have : 0 < n := by
      rcases Int.lt_or_le 0 n with h | h
      · exact h
      · rw [show n = 0 by omega, widthN_zero] at p; omega
    obtain ⟨c, r, w, e1, e2, e3⟩ := lay_head this hn.2
    unfold putSmall at q
    rw [e2] at q
    simp at q
    exact e3 q
  unfold getSmall
  rw [h0, if_neg (by rw [List.length_append]; omega), if_neg (by omega), if_neg (by rw [List.length_append]; omega), if_neg h1]
  rw [show (((widthN 8 n : Nat) : Int) + 1).toNat = (putSmall n).length by omega, List.take_left' rfl]
  have e : (putSmall n).drop 1 = layB n (widthN 8 n) := rfl
  rw [e, numB_lay _ _ hn.1 (widthN_hi 8 n hn.1 (by rw [p8]; omega)) hn.2, hlen]
  rfl
end Go.Proofs.Ytbobjiaggngbmaa

set_option linter.unusedVariables false
set_option linter.unusedSimpArgs false
namespace Go.Proofs.Ytbobjiaggngbmaa
open Go.Eng
theorem putText_len (s : List UInt8) : (putText s).length ≤ 2 * s.length + 2 := by
  have := escI_len (bytesOfStr s)
  have e : (bytesOfStr s).length = s.length := by simp [bytesOfStr]
  simp only [putText, putB, List.length_append, List.length_cons, List.length_nil]; omega
theorem putSmall_len (n : Int) : 1 ≤ (putSmall n).length ∧ (putSmall n).length ≤ 9 := by
  have hw := widthN_le 8 n
  have hl : (layB n (widthN 8 n)).length = widthN 8 n := layB_len _ _
  simp only [putSmall, List.length_cons]; omega
theorem bytes_str : ∀ (xs : List Int), isB xs → bytesOfStr (strOfBytes xs) = xs
  | [], _ => rfl
  | x :: r, h => by
    have hx := h x (by simp)
    have ih := bytes_str r (fun z hz => h z (by simp [hz]))
    show ((UInt8.ofNat x.toNat).toNat : Int) :: bytesOfStr (strOfBytes r) = _
    rw [ih, UInt8.toNat_ofNat']
    congr 1; omega
theorem str_inj {xs ys : List Int} (hx : isB xs) (hy : isB ys) (h : strOfBytes xs = strOfBytes ys) : xs = ys := by
  rw [← bytes_str xs hx, h, bytes_str ys hy]
theorem behind_facts {b m o : List Int} (hb : isB b) (ho : isB o) (hm : isB m) :
    ((behL b).2 = false → (b.length ≤ o.length ∧ strOfBytes (o.take b.length) = strOfBytes b) ∨ Lib.compareBytes (strOfBytes o) (strOfBytes b) < 0) ∧
    ((behL b).2 = true → Lib.compareBytes (strOfBytes (b ++ m)) (strOfBytes (behL b).1) < 0 ∧ ((0 ≤ Lib.compareBytes (strOfBytes o) (strOfBytes b) ∧ Lib.compareBytes (strOfBytes o) (strOfBytes (behL b).1) < 0) ↔ (b.length ≤ o.length ∧ strOfBytes (o.take b.length) = strOfBytes b))) := by
  have hs : strOfBytes (o.take b.length) = strOfBytes b ↔ o.take b.length = b := ⟨str_inj (isB_take ho _) hb, fun h => by rw [h]⟩
  rw [hs, cmpB_eq o b ho hb, behL_F]
  cases hf : behF b with
  | none =>
    refine ⟨fun _ => behF_none hb hf o ho, fun h => by simp at h⟩
  | some x =>
    refine ⟨fun h => by simp at h, fun _ => ?_⟩
    have hx := behF_isB hb hf
    simp only
    rw [cmpB_eq _ _ (isB_append hb hm) hx, cmpB_eq _ _ ho hx]
    exact ⟨behF_long m hf, behF_some hb hf o ho⟩
end Go.Proofs.Ytbobjiaggngbmaa

set_option linter.unusedVariables false
set_option linter.unusedSimpArgs false
namespace Go.Proofs.Ytbobjiaggngbmaa
open Go.Eng
abbrev Ver := Int × Int × Bool × List UInt8
abbrev Stk := List UInt8 × List Ver
def pend (me : Int) (v : Ver) : Bool := decide (v.2.1 = 0 ∧ v.1 = me ∧ 0 ≤ me)
end Go.Proofs.Ytbobjiaggngbmaa

set_option linter.unusedVariables false
set_option linter.unusedSimpArgs false
namespace Go.Proofs.Ytbobjiaggngbmaa
open Go.Eng
def roomP (me : Int) (v : Ver) : Bool := (v.2.1 == 0) && (v.1 == me)
def room (s : Stk) (me : Int) : Bool := decide (s.2.length < 8) || s.2.any (roomP me)
def okTs (at' : Int) (v : Ver) : Bool := decide (1 ≤ v.2.1 ∧ v.2.1 ≤ at')
end Go.Proofs.Ytbobjiaggngbmaa

set_option linter.unusedVariables false
set_option linter.unusedSimpArgs false
namespace Go.Proofs.Ytbobjiaggngbmaa
open Go.Eng
abbrev ver0 : Ver := (0, 0, false, [])
def ordered1 (v : Ver) : Bool := v.2.1 == 0
def firstZ (xs : List Ver) : Nat := if idxF ordered1 xs 0 < 0 then xs.length else (idxF ordered1 xs 0).toNat
def OrdA (xs : List Ver) (n : Nat) : Prop := ∀ j, j < n → 1 ≤ j → (xs.getD (j - 1) ver0).2.1 ≤ (xs.getD j ver0).2.1
def OrdB : List Ver → List Int → Prop
  | [], _ => True
  | v :: r, l => v.2.1 = 0 ∧ v.1 ∉ l ∧ OrdB r (v.1 :: l)
instance : ∀ (xs : List Ver) (l : List Int), Decidable (OrdB xs l)
  | [], _ => .isTrue trivial
  | v :: r, l => by
    have := instDecidableOrdB r (v.1 :: l)
    unfold OrdB
    exact inferInstance
instance (xs : List Ver) (n : Nat) : Decidable (OrdA xs n) := by unfold OrdA; exact inferInstance
def ordered (xs : List Ver) : Bool := decide (OrdA xs (firstZ xs) ∧ OrdB (xs.drop (firstZ xs)) [])
end Go.Proofs.Ytbobjiaggngbmaa

set_option linter.unusedVariables false
set_option linter.unusedSimpArgs false
namespace Go.Proofs.Ytbobjiaggngbmaa
open Go.Eng
def write (s : Stk) (v : Ver) : Stk :=
  if 0 ≤ idxF (roomP v.1) s.2 0 then (s.1, s.2.set (idxF (roomP v.1) s.2 0).toNat (v.1, 0, v.2.2)) else if s.2.length < 8 then (s.1, s.2 ++ [(v.1, 0, v.2.2)]) else s
end Go.Proofs.Ytbobjiaggngbmaa

set_option linter.unusedVariables false
set_option linter.unusedSimpArgs false
set_option maxRecDepth 8000
namespace Go.Proofs.Ytbobjiaggngbmaa
open Go.Eng
def sBEqual : PSpec := ⟨[.d BT, .d BT], [⟨false, [.d .bool]⟩], fun _ => True, fun x => ((strOfBytes x.1 == strOfBytes x.2.1, ()), ())⟩
theorem fBEqual : FnOk Try.prog 53 := ⟨_, Try.func53, by decide, rfl⟩
theorem pBEqual : PSound Try.prog 53 sBEqual := by
  refine psound (T := tab) (S := (spOf [])) (keep := k53) (by kernel_rfl) tabOk spNil (by kernel_rfl) Try.func53 (by kernel_rfl) (by decide) fun xs hg hp => ?_
  obtain ⟨xs, ys, ⟨⟩⟩ := xs
  show vfun tab _ k53 Try.f53 [.sl (.int .u8) xs, .sl (.int .u8) ys] [] _
  refine Ev.out ?_
  repeat' (first | ((with_reducible refine Ev.mk ?_); conv => whnf) | (with_reducible refine And.intro ?_ ?_) | (intro h))
  all_goals exact Leaf.mk rfl
end Go.Proofs.Ytbobjiaggngbmaa
