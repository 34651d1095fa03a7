import Derived.Test.YtoedpnniaikfbaaA2


set_option linter.unusedVariables false
set_option linter.unusedSimpArgs false
namespace Go.Proofs.Ytoedpnniaikfbaa
open Go.Eng
theorem which_pos (s : Stk) (me at' : Int) : which s me at' = -1 ∨ (0 ≤ which s me at' ∧ which s me at' < s.2.length) := by
  have h1 := idxF_pos (pend me) s.2 0
  have h2 := bestL_pos at' s.2 0
  unfold which
  split <;> omega
def readV (s : Stk) (me at' : Int) : List UInt8 × Bool :=
  if which s me at' = -1 ∨ (s.2.getD (which s me at').toNat (0, 0, false, [])).2.2.1 = true then ([], false) else ((s.2.getD (which s me at').toNat (0, 0, false, [])).2.2.2, true)
def sRead : PSpec := ⟨[.d StT, .d (.int .i64), .d (.int .i64)], [⟨false, [.d .str]⟩, ⟨false, [.d .bool]⟩], fun _ => True, fun x => (((readV x.1 x.2.1 x.2.2.1).1, ()), ((readV x.1 x.2.1 x.2.2.1).2, ()), ())⟩
def sReadR : PSpec := sRead
theorem noSp : SpecsOk Try.prog (fun _ => none) := fun f s h => by cases h
def lightV (v : Ver) : Bool := decide (v.2.2.2.length ≤ 100)
def light (s : Stk) : Bool := decide (s.1.length ≤ 100) && (decide (s.2.length ≤ 12) && s.2.all lightV)
def sLight : PSpec := ⟨[.d StT], [⟨false, [.d .bool]⟩], fun _ => True, fun x => ((light x.1, ()), ())⟩
theorem fLight : FnOk Try.prog 13 := ⟨_, Try.func13, by decide, rfl⟩
theorem pLight : PSound Try.prog 13 sLight := by
  refine psound (T := tab) (S := (spOf [])) (keep := k13) (by kernel_rfl) tabOk spNil (by kernel_rfl) Try.func13 (by kernel_rfl) (by decide) fun xs hg hp => ?_
  obtain ⟨⟨key, xs⟩, ⟨⟩⟩ := xs
  obtain ⟨⟨hk, hl, hx⟩, hg⟩ := hg
  change List UInt8 at key
  change List Ver at xs
  have hl := len63 hl
  clear hp
  show vfun tab _ k13 Try.f13 [.agg [.s key, .sl VerT xs]] [] _
  refine Ev.out ?_
  repeat' (first | ((with_reducible refine Ev.mk ?_); conv => whnf) | (with_reducible refine And.intro ?_ ?_) | (intro h))
  all_goals (try simp only [decide_eq_true_eq, decide_eq_false_iff_not, beq_iff_eq, bne_iff_ne, beq_eq_false_iff_ne, bne_eq_false_iff_eq, Int.toNat_natCast, ge_iff_le, gt_iff_lt, Bool.not_eq_true', Bool.not_eq_false', Int.not_lt, Int.not_le, ne_eq] at *)
  all_goals (try dsimp only [Ty.den, Ty.dflt, VerT] at *)
  all_goals (try simp only [eq4, ne4, eq3, ne3, eq2, ne2, Prod.eta, List.length_cons, List.length_nil, List.length_append, Nat.zero_add] at *)
  all_goals (try simp (disch := omega) only [wrap64] at *)
  · refine Leaf.mk (ret1 (?_ : false = light (key, xs)))
    simp only [light]; rw [show decide (key.length ≤ 100) = false by simp; omega]; rfl
  · refine Leaf.mk (ret1 (?_ : false = light (key, xs)))
    simp only [light]; rw [show decide (xs.length ≤ 12) = false by simp; omega]; simp
  · have h0 : light (key, xs) = xs.all lightV := by
      simp only [light]; rw [show decide (xs.length ≤ 12) = true by simp; omega, show decide (key.length ≤ 100) = true by simp; omega]; simp
    refine LoopVC.on (fun i : Nat => [(3, .i .i64 i)]) (fun _ => []) (fun i => i ≤ xs.length ∧ light (key, xs) = (xs.drop i).all lightV) (fun i => xs.length - i) 0 rfl ⟨by omega, by simp [h0]⟩ ?_
    intro i ⟨hi, he⟩
    repeat' (first | ((with_reducible refine Ev.mk ?_); conv => whnf) | (with_reducible refine And.intro ?_ ?_) | (intro h))
    all_goals (try simp only [decide_eq_true_eq, decide_eq_false_iff_not, beq_iff_eq, bne_iff_ne, beq_eq_false_iff_ne, bne_eq_false_iff_eq, Int.toNat_natCast, ge_iff_le, gt_iff_lt, Bool.not_eq_true', Bool.not_eq_false', Int.not_lt, Int.not_le, ne_eq] at *)
    all_goals (try dsimp only [Ty.den, Ty.dflt, VerT] at *)
    all_goals (try simp only [eq4, ne4, eq3, ne3, eq2, ne2, Prod.eta, List.length_cons, List.length_nil, List.length_append, Nat.zero_add] at *)
    all_goals (try simp (disch := omega) only [wrap64] at *)
    all_goals try first | exact leafDraw (by kernel_rfl) | exact Leaf.mk trivial | (refine Leaf.mk ?_; omega) | (refine Leaf.mk ?_; unfold maxLen; omega)
    all_goals first
      | (rw [all_end (by omega)] at he; exact Leaf.mk (ret1 he.symm))
      | (rw [all_hit (0, 0, false, []) (by omega) (by simp only [lightV, decide_eq_false_iff_not]; omega)] at he; exact Leaf.mk (ret1 he.symm))
      | (rw [all_skip (0, 0, false, []) (by omega) (by simp only [lightV, decide_eq_true_eq]; omega)] at he; exact Leaf.mk ⟨i + 1, rfl, ⟨by omega, he⟩, by omega⟩)
def sIndexFunc : PSpec := ⟨[.d (.slice VerT), .lam VerT .bool], [⟨false, [.d (.int .i64)]⟩], fun _ => True, fun x => ((idxF x.2.1 x.1 0, ()), ())⟩
theorem fIndexFunc : FnOk Try.prog 136 := ⟨_, Try.func136, by decide, rfl⟩
theorem pIndexFunc : PSound Try.prog 136 sIndexFunc := by
  refine psound (T := tab) (S := (spOf [])) (keep := k136) (by kernel_rfl) tabOk spNil (by kernel_rfl) Try.func136 (by kernel_rfl) (by decide) fun xs hg hp => ?_
  obtain ⟨xs, p, ⟨⟩⟩ := xs
  obtain ⟨⟨hl, -⟩, -⟩ := hg
  change List Ver at xs
  change Ver → Bool at p
  have hl := len63 hl
  clear hp
  show vfun tab _ k136 Try.f136 [.sl VerT xs, .lam VerT .bool p] [] _
  refine Ev.out ?_
  repeat' (first | ((with_reducible refine Ev.mk ?_); conv => whnf) | (with_reducible refine And.intro ?_ ?_) | (intro h))
  refine LoopVC.on (fun i : Nat => [(8, .i .i64 i)]) (fun _ => []) (fun i => i ≤ xs.length ∧ idxF p xs 0 = idxF p (xs.drop i) i) (fun i => xs.length - i) 0 rfl ⟨by omega, by simp⟩ ?_
  intro i ⟨hi, he⟩
  repeat' (first | ((with_reducible refine Ev.mk ?_); conv => whnf) | (with_reducible refine And.intro ?_ ?_) | (intro h))
  all_goals (try simp only [decide_eq_true_eq, decide_eq_false_iff_not, beq_iff_eq, bne_iff_ne, beq_eq_false_iff_ne, bne_eq_false_iff_eq, Int.toNat_natCast, ge_iff_le, gt_iff_lt, Bool.not_eq_true', Bool.not_eq_false', Int.not_lt, Int.not_le, ne_eq] at *)
  all_goals (try dsimp only [Ty.den, Ty.dflt, VerT] at *)
  all_goals (try simp only [eq4, ne4, eq3, ne3, eq2, ne2, Prod.eta, List.length_cons, List.length_nil, List.length_append, Nat.zero_add] at *)
  all_goals (try simp (disch := omega) only [wrap64] at *)
  all_goals try first | exact leafDraw (by kernel_rfl) | exact Leaf.mk trivial | (refine Leaf.mk ?_; omega) | (refine Leaf.mk ?_; unfold maxLen; omega)
  all_goals first
    | (rw [drop_end (by omega)] at he; exact Leaf.mk (ret1 he.symm))
    | (rw [drop_at (0, 0, false, []) (by omega), idxF, if_pos (by assumption)] at he; exact Leaf.mk (ret1 he.symm))
    | (rw [drop_at (0, 0, false, []) (by omega), idxF, if_neg (by simp_all)] at he; exact Leaf.mk ⟨i + 1, rfl, ⟨by omega, he⟩, by omega⟩)
def sContainsFunc : PSpec := ⟨[.d (.slice VerT), .lam VerT .bool], [⟨false, [.d .bool]⟩], fun _ => True, fun x => ((List.any x.1 x.2.1, ()), ())⟩
def newerP (at' me : Int) (v : Ver) : Bool := decide (at' < v.2.1) && (v.1 != me)
def lNewer1 : LSpec := ⟨VerT, .bool, [.bx (.int .i64), .bx (.int .i64)], fun v c => newerP c.1 c.2.1 v⟩
def roomP (me : Int) (v : Ver) : Bool := (v.2.1 == 0) && (v.1 == me)
def lRoom1 : LSpec := ⟨VerT, .bool, [.bx (.int .i64)], fun v c => roomP c.1 v⟩
def newer (s : Stk) (me at' : Int) : Bool := s.2.any (newerP at' me)
def sNewer : PSpec := ⟨[.d StT, .d (.int .i64), .d (.int .i64)], [⟨false, [.d .bool]⟩], fun _ => True, fun x => ((newer x.1 x.2.1 x.2.2.1, ()), ())⟩
def room (s : Stk) (me : Int) : Bool := decide (s.2.length < 8) || s.2.any (roomP me)
def sRoom : PSpec := ⟨[.d StT, .d (.int .i64)], [⟨false, [.d .bool]⟩], fun _ => True, fun x => ((room x.1 x.2.1, ()), ())⟩
def sNewerR : PSpec := sNewer
def sRoomR : PSpec := sRoom
def okTs (at' : Int) (v : Ver) : Bool := decide (1 ≤ v.2.1 ∧ v.2.1 ≤ at')
def settled (s : Stk) (at' : Int) : Bool := decide (s.2.countP (okTs at') = 0 ∨ (s.2.countP (okTs at') = 1 ∧ (1 < s.2.length ∨ (s.2.getD 0 (0, 0, false, [])).2.2.1 = false)))
def sSettled : PSpec := ⟨[.d StT, .d (.int .i64)], [⟨false, [.d .bool]⟩], fun _ => True, fun x => ((settled x.1 x.2.1, ()), ())⟩
def sSettledR : PSpec := sSettled
def samePairs (a b : List Pr) : Bool := decide (a = b)
def sSamePairs : PSpec := ⟨[.d (.slice PairT), .d (.slice PairT)], [⟨false, [.d .bool]⟩], fun _ => True, fun x => ((samePairs x.1 x.2.1, ()), ())⟩
def scan1 (me at' : Int) (s : Stk) : Option Pr := if (readV s me at').2 = true then some (s.1, (readV s me at').1) else none
def scan (l : List Stk) (me at' : Int) : List Pr := l.filterMap (scan1 me at')
def sScan : PSpec := ⟨[.d (.slice StT), .d (.int .i64), .d (.int .i64)], [⟨false, [.d (.slice PairT)]⟩], fun x => x.1.length ≤ 1000, fun x => ((scan x.1 x.2.1 x.2.2.1, ()), ())⟩
def sScanR : PSpec := sScan
end Go.Proofs.Ytoedpnniaikfbaa
