import Derived.Test.YtlfehkoklgmjjaaF1
import Derived.Test.YtlfehkoklgmjjaaB5
import Derived.Test.YtlfehkoklgmjjaaB10
import Derived.Test.YtlfehkoklgmjjaaC4


set_option linter.unusedVariables false
set_option linter.unusedSimpArgs false
set_option maxRecDepth 8000
namespace Go.Proofs.Ytlfehkoklgmjjaa
open Go.Eng
abbrev RdT : Ty := .pair BT (.int .i64)
def sLeft : MSpec := ⟨[.m RP], [⟨false, [.d (.int .i64)]⟩], fun _ => True, fun x => (((List.length (α := Int) x.1.1 : Nat), ()), x.1, ())⟩
theorem fLeft : FnOk Try.prog 100 := ⟨_, Try.func100, by decide, rfl⟩
theorem pLeft : SpecOk Try.prog 100 sLeft.spec := by
  refine mOk (T := tab) (S := (spOf [])) (keep := k100m) tabOk spNil (by kernel_rfl) Try.func100 (by kernel_rfl) (by kernel_rfl) (by decide) fun xs hg hp => ?_
  obtain ⟨⟨b, e, ⟨⟩⟩, ⟨⟩⟩ := xs
  change List Int at b
  change Int at e
  show vfunM tab _ k100m Try.f100 [.ptr 0 0] [(0, .box [.sl (.int .u8) b, .i .i64 e])] _
  refine Ev.out ?_
  repeat' (first | ((with_reducible refine Ev.mk ?_); conv => whnf) | (with_reducible refine And.intro ?_ ?_) | (intro h))
  all_goals exact Leaf.mk rfl
def sBEqual : PSpec := ⟨[.d BT, .d BT], [⟨false, [.d .bool]⟩], fun _ => True, fun x => ((strOfBytes x.1 == strOfBytes x.2.1, ()), ())⟩
theorem fBEqual : FnOk Try.prog 102 := ⟨_, Try.func102, by decide, rfl⟩
theorem pBEqual : PSound Try.prog 102 sBEqual := by
  refine psound (T := tab) (S := (spOf [])) (keep := k102) (by kernel_rfl) tabOk spNil (by kernel_rfl) Try.func102 (by kernel_rfl) (by decide) fun xs hg hp => ?_
  obtain ⟨xs, ys, ⟨⟩⟩ := xs
  show vfun tab _ k102 Try.f102 [.sl (.int .u8) xs, .sl (.int .u8) ys] [] _
  refine Ev.out ?_
  repeat' (first | ((with_reducible refine Ev.mk ?_); conv => whnf) | (with_reducible refine And.intro ?_ ?_) | (intro h))
  all_goals exact Leaf.mk rfl
def sFlag : PSpec := ⟨[.d .bool], [⟨false, [.d (.int .u8)]⟩], fun _ => True, fun x => ((if x.1 = true then 1 else 0, ()), ())⟩
theorem fFlag : FnOk Try.prog 119 := ⟨_, Try.func119, by decide, rfl⟩
theorem pFlag : PSound Try.prog 119 sFlag := by
  refine psound (T := tab) (S := (spOf [])) (keep := k119) (by kernel_rfl) tabOk spNil (by kernel_rfl) Try.func119 (by kernel_rfl) (by decide) fun xs hg hp => ?_
  obtain ⟨g, ⟨⟩⟩ := xs
  change Bool at g
  show vfun tab _ k119 Try.f119 [.b g] [] _
  refine Ev.out ?_
  repeat' (first | ((with_reducible refine Ev.mk ?_); conv => whnf) | (with_reducible refine And.intro ?_ ?_) | (intro h))
  · exact Leaf.mk (ret1 (show (1 : Int) = if g = true then 1 else 0 by rw [if_pos h]))
  · exact Leaf.mk (ret1 (show (0 : Int) = if g = true then 1 else 0 by rw [if_neg (by rw [h]; simp)]))
def sVEqual : PSpec := ⟨[.d (.slice VerT), .d (.slice VerT)], [⟨false, [.d .bool]⟩], fun _ => True, fun x => ((decide ((x.1 : List Ver) = x.2.1), ()), ())⟩
theorem fVEqual : FnOk Try.prog 124 := ⟨_, Try.func124, by decide, rfl⟩
theorem pVEqual : PSound Try.prog 124 sVEqual := by
  refine psound (T := tab) (S := (spOf [])) (keep := k124) (by kernel_rfl) tabOk spNil (by kernel_rfl) Try.func124 (by kernel_rfl) (by decide) fun xs hg hp => ?_
  obtain ⟨xs, ys, ⟨⟩⟩ := xs
  obtain ⟨⟨hl, -⟩, ⟨hl2, -⟩, -⟩ := hg
  have hl := len63 hl
  have hl2 := len63 hl2
  change List Ver at xs ys
  change xs.length ≤ _ at hl
  change ys.length ≤ _ at hl2
  clear hp
  show vfun tab _ k124 Try.f124 [.sl VerT xs, .sl VerT ys] [] _
  refine Ev.out ?_
  repeat' (first | ((with_reducible refine Ev.mk ?_); conv => whnf) | (with_reducible refine And.intro ?_ ?_) | (intro h))
  all_goals (try simp only [decide_eq_true_eq, decide_eq_false_iff_not, beq_iff_eq, bne_iff_ne, beq_eq_false_iff_ne, bne_eq_false_iff_eq, Int.toNat_natCast, ge_iff_le, gt_iff_lt, Bool.not_eq_true', Bool.not_eq_false', Int.not_lt, Int.not_le, ne_eq] at *)
  all_goals (try dsimp only [Ty.den, Ty.dflt, VerT] at *)
  all_goals (try simp only [eq4, ne4, eq3, ne3, eq2, ne2, Prod.eta, List.length_cons, List.length_nil, List.length_append, Nat.zero_add] at *)
  all_goals (try simp (disch := omega) only [wrap64] at *)
  · refine Leaf.mk (ret1 (show false = decide (xs = ys) from ?_))
    rw [eq_comm, decide_eq_false_iff_not]; intro hc; subst hc; omega
  refine LoopVC.on (fun i : Nat => [(13, .i .i64 i)]) (fun _ => []) (fun i => i ≤ xs.length ∧ xs.take i = ys.take i) (fun i => xs.length - i) 0 rfl ⟨by omega, by simp⟩ ?_
  intro i ⟨hi, he⟩
  repeat' (first | ((with_reducible refine Ev.mk ?_); conv => whnf) | (with_reducible refine And.intro ?_ ?_) | (intro h))
  all_goals (try simp only [decide_eq_true_eq, decide_eq_false_iff_not, beq_iff_eq, bne_iff_ne, beq_eq_false_iff_ne, bne_eq_false_iff_eq, Int.toNat_natCast, ge_iff_le, gt_iff_lt, Bool.not_eq_true', Bool.not_eq_false', Int.not_lt, Int.not_le, ne_eq] at *)
  all_goals (try dsimp only [Ty.den, Ty.dflt, VerT] at *)
  all_goals (try simp only [eq4, ne4, eq3, ne3, eq2, ne2, Prod.eta, List.length_cons, List.length_nil, List.length_append, Nat.zero_add] at *)
  all_goals (try simp (disch := omega) only [wrap64] at *)
  all_goals try first | exact leafDraw (by kernel_rfl) | exact Leaf.mk trivial | (refine Leaf.mk ?_; omega) | (refine Leaf.mk ?_; unfold maxLen; omega)
  all_goals first
    | exact Leaf.mk (ret1 (show false = decide (xs = ys) by rw [eq_comm, decide_eq_false_iff_not]; exact same_not ver0 h))
    | exact Leaf.mk ⟨i + 1, rfl, ⟨by omega, same_step ver0 (by omega) he (by omega) h⟩, by omega⟩
    | exact Leaf.mk (ret1 (show true = decide (xs = ys) by rw [eq_comm, decide_eq_true_eq]; exact same_end (by omega) he (by omega)))
def sameS (a b : Stk) : Bool := decide (a = b)
def sSSame : PSpec := ⟨[.d StT, .d StT], [⟨false, [.d .bool]⟩], fun _ => True, fun x => ((sameS x.1 x.2.1, ()), ())⟩
theorem fSSame : FnOk Try.prog 52 := ⟨_, Try.func52, by decide, rfl⟩
theorem pSSame : PSound Try.prog 52 sSSame := by
  refine psound (T := tab) (S := (spOf [(124, sVEqual.spec (lsOf []))])) (keep := k52) (by kernel_rfl) tabOk (spCons (pOk pVEqual fVEqual (by decide) lsNil) spNil) (by kernel_rfl) Try.func52 (by kernel_rfl) (by decide) fun xs hg hp => ?_
  obtain ⟨⟨k, xs⟩, ⟨k2, ys⟩, ⟨⟩⟩ := xs
  change List UInt8 at k k2
  change List Ver at xs ys
  show vfun tab _ k52 Try.f52 [.agg [.s k, .sl VerT xs], .agg [.s k2, .sl VerT ys]] [] _
  refine Ev.out ?_
  repeat' (first | ((with_reducible refine Ev.mk ?_); conv => whnf) | (with_reducible refine And.intro ?_ ?_) | (intro h))
  all_goals (try simp only [decide_eq_true_eq, decide_eq_false_iff_not, beq_iff_eq, bne_iff_ne, beq_eq_false_iff_ne, bne_eq_false_iff_eq, Int.toNat_natCast, ge_iff_le, gt_iff_lt, Bool.not_eq_true', Bool.not_eq_false', Int.not_lt, Int.not_le, ne_eq] at *)
  all_goals (try dsimp only [Ty.den, Ty.dflt, VerT, sVEqual] at *)
  all_goals (try simp only [eq4, ne4, eq3, ne3, eq2, ne2, Prod.eta, List.length_cons, List.length_nil, List.length_append, Nat.zero_add] at *)
  all_goals (try simp (disch := omega) only [wrap64] at *)
  all_goals try first | exact leafDraw (by kernel_rfl) | exact Leaf.mk trivial | (refine Leaf.mk ?_; omega) | (refine Leaf.mk ?_; unfold maxLen; omega)
  all_goals first
    | exact Leaf.mk (ret1 (show decide (xs = ys) = decide ((k, xs) = (k2, ys)) by rw [h]; simp))
    | exact Leaf.mk (ret1 (show false = decide ((k, xs) = (k2, ys)) by rw [eq_comm, decide_eq_false_iff_not]; intro hc; exact h (congrArg Prod.fst hc)))
def sSSameR : PSpec := sSSame
theorem fSSameR : FnOk Try.prog 51 := ⟨_, Try.func51, by decide, rfl⟩
theorem pSSameR : PSound Try.prog 51 sSSameR := by
  refine psound (T := tab) (S := (spOf [])) (keep := k51) (by kernel_rfl) tabOk spNil (by kernel_rfl) Try.func51 (by kernel_rfl) (by decide) fun xs hg hp => ?_
  obtain ⟨⟨k, xs⟩, ⟨k2, ys⟩, ⟨⟩⟩ := xs
  obtain ⟨⟨-, hl, -⟩, ⟨-, hl2, -⟩, -⟩ := hg
  have hl := len63 hl
  have hl2 := len63 hl2
  change List UInt8 at k k2
  change List Ver at xs ys
  change xs.length ≤ _ at hl
  change ys.length ≤ _ at hl2
  clear hp
  show vfun tab _ k51 Try.f51 [.agg [.s k, .sl VerT xs], .agg [.s k2, .sl VerT ys]] [] _
  refine Ev.out ?_
  repeat' (first | ((with_reducible refine Ev.mk ?_); conv => whnf) | (with_reducible refine And.intro ?_ ?_) | (intro h))
  all_goals (try simp only [decide_eq_true_eq, decide_eq_false_iff_not, beq_iff_eq, bne_iff_ne, beq_eq_false_iff_ne, bne_eq_false_iff_eq, Int.toNat_natCast, ge_iff_le, gt_iff_lt, Bool.not_eq_true', Bool.not_eq_false', Int.not_lt, Int.not_le, ne_eq] at *)
  all_goals (try dsimp only [Ty.den, Ty.dflt, VerT] at *)
  all_goals (try simp only [eq4, ne4, eq3, ne3, eq2, ne2, Prod.eta, List.length_cons, List.length_nil, List.length_append, Nat.zero_add] at *)
  all_goals (try simp (disch := omega) only [wrap64] at *)
  all_goals try first | exact leafDraw (by kernel_rfl) | exact Leaf.mk trivial | (refine Leaf.mk ?_; omega) | (refine Leaf.mk ?_; unfold maxLen; omega)
  all_goals try first
    | exact Leaf.mk (ret1 (show false = decide ((k, xs) = (k2, ys)) by rw [eq_comm, decide_eq_false_iff_not]; intro hc; exact h (congrArg Prod.fst hc)))
    | exact Leaf.mk (ret1 (show false = decide ((k, xs) = (k2, ys)) by rw [eq_comm, decide_eq_false_iff_not]; intro hc; exact h (congrArg (fun q => ((List.length (α := Ver) (Prod.snd q) : Nat) : Int)) hc)))
  refine LoopVC.on (fun i : Nat => [(5, .i .i64 i)]) (fun _ => []) (fun i => i ≤ xs.length ∧ xs.take i = ys.take i) (fun i => xs.length - i) 0 rfl ⟨by omega, by simp⟩ ?_
  intro i ⟨hi, he⟩
  repeat' (first | ((with_reducible refine Ev.mk ?_); conv => whnf) | (with_reducible refine And.intro ?_ ?_) | (intro h))
  all_goals (try simp only [decide_eq_true_eq, decide_eq_false_iff_not, beq_iff_eq, bne_iff_ne, beq_eq_false_iff_ne, bne_eq_false_iff_eq, Int.toNat_natCast, ge_iff_le, gt_iff_lt, Bool.not_eq_true', Bool.not_eq_false', Int.not_lt, Int.not_le, ne_eq] at *)
  all_goals (try dsimp only [Ty.den, Ty.dflt, VerT] at *)
  all_goals (try simp only [eq4, ne4, eq3, ne3, eq2, ne2, Prod.eta, List.length_cons, List.length_nil, List.length_append, Nat.zero_add] at *)
  all_goals (try simp (disch := omega) only [wrap64] at *)
  all_goals try first | exact leafDraw (by kernel_rfl) | exact Leaf.mk trivial | (refine Leaf.mk ?_; omega) | (refine Leaf.mk ?_; unfold maxLen; omega)
  all_goals first
    | exact Leaf.mk (ret1 (show false = decide ((k, xs) = (k2, ys)) by rw [eq_comm, decide_eq_false_iff_not]; intro hc; exact same_not ver0 h (congrArg Prod.snd hc)))
    | exact Leaf.mk ⟨i + 1, rfl, ⟨by omega, same_step ver0 (by omega) he (by omega) h⟩, by omega⟩
    | exact Leaf.mk (ret1 (show true = decide ((k, xs) = (k2, ys)) by rw [eq_comm, decide_eq_true_eq]; rw [same_end (by omega) he (by omega)]; congr 1))
theorem putQ {α : Type} {u v : α × List Int × Int} (h : u = v) : (some ((u.2, ()), (u.1, ()), ()) : Option (((List Int × Int) × Unit) × (α × Unit) × Unit)) = some ((v.2, ()), (v.1, ()), ()) := by rw [h]
def rdS (b : List Int) (e : Int) : (List Int × Int) × Int := ((rdSmall b e).2, (rdSmall b e).1)
def sRSmall : PSpec := ⟨[.d RdT], [⟨true, [.d RdT]⟩, ⟨false, [.d (.int .i64)]⟩], fun _ => True, fun x => (((rdSmall x.1.1 x.1.2).2, ()), ((rdSmall x.1.1 x.1.2).1, ()), ())⟩
theorem fRSmall : FnOk Try.prog 103 := ⟨_, Try.func103, by decide, rfl⟩
theorem pRSmall : PSound Try.prog 103 sRSmall := by
  refine psound (T := tab) (S := (spOf [(155, sGetSmallR.spec (lsOf []))])) (keep := k103) (by kernel_rfl) tabOk (spCons (pOk pGetSmallR fGetSmallR (by decide) lsNil) spNil) (by kernel_rfl) Try.func103 (by kernel_rfl) (by decide) fun xs hg hp => ?_
  obtain ⟨⟨b, e⟩, ⟨⟩⟩ := xs
  change List Int at b
  change Int at e
  obtain ⟨⟨⟨hl, hx⟩, -⟩, -⟩ := hg
  clear hl hp
  change ∀ x ∈ b, Eng.Good (.int .u8) x at hx
  have hb0 := getSmall_bd hx
  clear hx
  show vfun tab _ k103 Try.f103 [.agg [.sl (.int .u8) b, .i .i64 e]] [] _
  refine Ev.out ?_
  repeat' (first | ((with_reducible refine Ev.mk ?_); conv => whnf) | (with_reducible refine And.intro ?_ ?_) | (intro h))
  all_goals (try simp only [decide_eq_true_eq, decide_eq_false_iff_not, beq_iff_eq, bne_iff_ne, beq_eq_false_iff_ne, bne_eq_false_iff_eq, Int.toNat_natCast, ge_iff_le, gt_iff_lt, Bool.not_eq_true', Bool.not_eq_false', Int.not_lt, Int.not_le, ne_eq] at *)
  all_goals (try dsimp only [Ty.den, Ty.dflt, BT, sGetSmallR, sGetSmall] at *)
  all_goals (try simp only [eq4, ne4, eq3, ne3, eq2, ne2, Prod.eta, List.length_cons, List.length_nil, List.length_append, Nat.zero_add] at *)
  all_goals (try simp (disch := omega) only [wrap64] at *)
  all_goals try first | exact leafDraw (by kernel_rfl) | exact Leaf.mk trivial | (refine Leaf.mk ?_; omega) | (refine Leaf.mk ?_; unfold maxLen; omega)
  · refine Leaf.mk (putQ (u := (0, b, e)) (v := rdSmall b e) ?_)
    unfold rdSmall
    repeat first | rw [if_pos (by assumption)] | rw [if_neg (Int.not_lt.2 (by assumption))] | rw [if_neg (Classical.not_not.2 (by assumption))]
  · skip
    refine Leaf.mk (putQ (u := (0, b, (getSmall b).2.2)) (v := rdSmall b e) ?_)
    unfold rdSmall
    repeat first | rw [if_pos (by assumption)] | rw [if_neg (Int.not_lt.2 (by assumption))] | rw [if_neg (Classical.not_not.2 (by assumption))]
  · skip
    refine Leaf.mk (putQ (u := (0, b, 9)) (v := rdSmall b e) ?_)
    unfold rdSmall
    repeat first | rw [if_pos (by assumption)] | rw [if_neg (Int.not_lt.2 (by assumption))] | rw [if_neg (Classical.not_not.2 (by assumption))]
  · skip
    rw [List.take_length]
    refine Leaf.mk (putQ (u := ((getSmall b).1, b.drop (getSmall b).2.1.toNat, 0)) (v := rdSmall b e) ?_)
    unfold rdSmall
    repeat first | rw [if_pos (by assumption)] | rw [if_neg (Int.not_lt.2 (by assumption))] | rw [if_neg (Classical.not_not.2 (by assumption))]
def sRText : PSpec := ⟨[.d RdT, .d (.int .i64)], [⟨true, [.d RdT]⟩, ⟨false, [.d .str]⟩], fun x => List.length (α := Int) x.1.1 ≤ 100000, fun x => (((rdText x.1.1 x.1.2 x.2.1).2, ()), ((rdText x.1.1 x.1.2 x.2.1).1, ()), ())⟩
theorem fRText : FnOk Try.prog 104 := ⟨_, Try.func104, by decide, rfl⟩
theorem pRText : PSound Try.prog 104 sRText := by
  refine psound (T := tab) (S := (spOf [(156, sGetTextR.spec (lsOf []))])) (keep := k104) (by kernel_rfl) tabOk (spCons (pOk pGetTextR fGetTextR (by decide) lsNil) spNil) (by kernel_rfl) Try.func104 (by kernel_rfl) (by decide) fun xs hg hp => ?_
  obtain ⟨⟨b, e⟩, most, ⟨⟩⟩ := xs
  change List Int at b
  change Int at e
  change Int at most
  change b.length ≤ 100000 at hp
  show vfun tab _ k104 Try.f104 [.agg [.sl (.int .u8) b, .i .i64 e], .i .i64 most] [] _
  refine Ev.out ?_
  repeat' (first | ((with_reducible refine Ev.mk ?_); conv => whnf) | (with_reducible refine And.intro ?_ ?_) | (intro h))
  all_goals (try simp only [decide_eq_true_eq, decide_eq_false_iff_not, beq_iff_eq, bne_iff_ne, beq_eq_false_iff_ne, bne_eq_false_iff_eq, Int.toNat_natCast, ge_iff_le, gt_iff_lt, Bool.not_eq_true', Bool.not_eq_false', Int.not_lt, Int.not_le, ne_eq] at *)
  all_goals (try dsimp only [Ty.den, Ty.dflt, BT, sGetTextR, sGetText] at *)
  all_goals (try simp only [eq4, ne4, eq3, ne3, eq2, ne2, Prod.eta, List.length_cons, List.length_nil, List.length_append, Nat.zero_add] at *)
  all_goals (try simp (disch := omega) only [wrap64] at *)
  all_goals have hb := getText_bd b
  all_goals try first | exact leafDraw (by kernel_rfl) | exact Leaf.mk trivial | (refine Leaf.mk ?_; omega) | (refine Leaf.mk ?_; unfold maxLen; omega)
  · refine Leaf.mk (putQ (u := ([], b, e)) (v := rdText b e most) ?_)
    unfold rdText
    repeat first | rw [if_pos (by assumption)] | rw [if_neg (Int.not_lt.2 (by assumption))] | rw [if_neg (Classical.not_not.2 (by assumption))]
  · skip
    refine Leaf.mk (putQ (u := ([], b, (getText b).2.2)) (v := rdText b e most) ?_)
    unfold rdText
    repeat first | rw [if_pos (by assumption)] | rw [if_neg (Int.not_lt.2 (by assumption))] | rw [if_neg (Classical.not_not.2 (by assumption))]
  · skip
    refine Leaf.mk (putQ (u := ([], b, 5)) (v := rdText b e most) ?_)
    unfold rdText
    repeat first | rw [if_pos (by assumption)] | rw [if_neg (Int.not_lt.2 (by assumption))] | rw [if_neg (Classical.not_not.2 (by assumption))]
  · skip
    rw [List.take_length]
    refine Leaf.mk (putQ (u := ((getText b).1, b.drop (getText b).2.1.toNat, 0)) (v := rdText b e most) ?_)
    unfold rdText
    repeat first | rw [if_pos (by assumption)] | rw [if_neg (Int.not_lt.2 (by assumption))] | rw [if_neg (Classical.not_not.2 (by assumption))]
end Go.Proofs.Ytlfehkoklgmjjaa
