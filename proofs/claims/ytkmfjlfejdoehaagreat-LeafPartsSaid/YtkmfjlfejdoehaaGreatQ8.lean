import Derived.Test.YtkmfjlfejdoehaaGreatQ6
import Derived.Test.YtkmfjlfejdoehaaGreatQ7
/- Texts, one behind the other. -/
set_option linter.unusedVariables false
set_option linter.unusedSimpArgs false
set_option maxRecDepth 8000
namespace Go.Proofs.YtkmfjlfejdoehaaGreat
open Go.Eng
abbrev RdT : Ty := .pair BT (.int .i64)
def sLeft : MSpec := ⟨[.m RP], [⟨false, [.d (.int .i64)]⟩], fun _ => True, fun x => (((List.length (α := Int) x.1.1 : Nat), ()), x.1, ())⟩
theorem fLeft : FnOk Tryz.prog 97 := ⟨_, Tryz.func97, by decide, rfl⟩
theorem pLeft : SpecOk Tryz.prog 97 sLeft.spec := by
  refine mOk (T := tab) (S := (spOf [])) (keep := k97m) tabOk spNil (by kernel_rfl) Tryz.func97 (by kernel_rfl) (by kernel_rfl) (by decide) fun xs hg hp => ?_
  obtain ⟨⟨b, e, ⟨⟩⟩, ⟨⟩⟩ := xs
  change List Int at b
  change Int at e
  show vfunM tab _ k97m Tryz.f97 [.ptr 0 0] [(0, .box [.sl (.int .u8) b, .i .i64 e])] _
  refine Ev.out ?_
  repeat' (first | ((with_reducible refine Ev.mk ?_); conv => whnf) | (with_reducible refine And.intro ?_ ?_) | (intro h))
  all_goals exact Leaf.mk rfl
def sBEqual : PSpec := ⟨[.d BT, .d BT], [⟨false, [.d .bool]⟩], fun _ => True, fun x => ((strOfBytes x.1 == strOfBytes x.2.1, ()), ())⟩
theorem fBEqual : FnOk Tryz.prog 99 := ⟨_, Tryz.func99, by decide, rfl⟩
theorem pBEqual : PSound Tryz.prog 99 sBEqual := by
  refine psound (T := tab) (S := (spOf [])) (keep := k99) (by kernel_rfl) tabOk spNil (by kernel_rfl) Tryz.func99 (by kernel_rfl) (by decide) fun xs hg hp => ?_
  obtain ⟨xs, ys, ⟨⟩⟩ := xs
  show vfun tab _ k99 Tryz.f99 [.sl (.int .u8) xs, .sl (.int .u8) ys] [] _
  refine Ev.out ?_
  repeat' (first | ((with_reducible refine Ev.mk ?_); conv => whnf) | (with_reducible refine And.intro ?_ ?_) | (intro h))
  all_goals exact Leaf.mk rfl
def sFlag : PSpec := ⟨[.d .bool], [⟨false, [.d (.int .u8)]⟩], fun _ => True, fun x => ((if x.1 = true then 1 else 0, ()), ())⟩
theorem fFlag : FnOk Tryz.prog 205 := ⟨_, Tryz.func205, by decide, rfl⟩
theorem pFlag : PSound Tryz.prog 205 sFlag := by
  refine psound (T := tab) (S := (spOf [])) (keep := k205) (by kernel_rfl) tabOk spNil (by kernel_rfl) Tryz.func205 (by kernel_rfl) (by decide) fun xs hg hp => ?_
  obtain ⟨g, ⟨⟩⟩ := xs
  change Bool at g
  show vfun tab _ k205 Tryz.f205 [.b g] [] _
  refine Ev.out ?_
  repeat' (first | ((with_reducible refine Ev.mk ?_); conv => whnf) | (with_reducible refine And.intro ?_ ?_) | (intro h))
  · exact Leaf.mk (ret1 (show (1 : Int) = if g = true then 1 else 0 by rw [if_pos h]))
  · exact Leaf.mk (ret1 (show (0 : Int) = if g = true then 1 else 0 by rw [if_neg (by rw [h]; simp)]))
def sVEqual : PSpec := ⟨[.d (.slice VerT), .d (.slice VerT)], [⟨false, [.d .bool]⟩], fun _ => True, fun x => ((decide ((x.1 : List Ver) = x.2.1), ()), ())⟩
theorem fVEqual : FnOk Tryz.prog 156 := ⟨_, Tryz.func156, by decide, rfl⟩
theorem pVEqual : PSound Tryz.prog 156 sVEqual := by
  refine psound (T := tab) (S := (spOf [])) (keep := k156) (by kernel_rfl) tabOk spNil (by kernel_rfl) Tryz.func156 (by kernel_rfl) (by decide) fun xs hg hp => ?_
  obtain ⟨xs, ys, ⟨⟩⟩ := xs
  obtain ⟨⟨hl, -⟩, ⟨hl2, -⟩, -⟩ := hg
  have hl := len63 hl
  have hl2 := len63 hl2
  change List Ver at xs ys
  change xs.length ≤ _ at hl
  change ys.length ≤ _ at hl2
  clear hp
  show vfun tab _ k156 Tryz.f156 [.sl VerT xs, .sl VerT ys] [] _
  refine Ev.out ?_
  repeat' (first | ((with_reducible refine Ev.mk ?_); conv => whnf) | (with_reducible refine And.intro ?_ ?_) | (intro h))
  all_goals (try simp only [decide_eq_true_eq, decide_eq_false_iff_not, beq_iff_eq, bne_iff_ne, beq_eq_false_iff_ne, bne_eq_false_iff_eq, Int.toNat_natCast, ge_iff_le, gt_iff_lt, Bool.not_eq_true', Bool.not_eq_false', Int.not_lt, Int.not_le, ne_eq] at *)
  all_goals (try dsimp only [Ty.den, Ty.dflt, VerT] at *)
  all_goals (try simp only [eq4, ne4, eq3, ne3, eq2, ne2, Prod.eta, List.length_cons, List.length_nil, List.length_append, Nat.zero_add] at *)
  all_goals (try simp (disch := omega) only [wrap64] at *)
  · refine Leaf.mk (ret1 (show false = decide (xs = ys) from ?_))
    rw [eq_comm, decide_eq_false_iff_not]; intro hc; subst hc; omega
  refine LoopVC.on (fun i : Nat => [(13, .i .i64 i)]) (fun _ => []) (fun i => i ≤ xs.length ∧ xs.take i = ys.take i) (fun i => xs.length - i) 0 rfl ⟨by omega, by simp⟩ ?_
  intro i ⟨hi, he⟩
  repeat' (first | ((with_reducible refine Ev.mk ?_); conv => whnf) | (with_reducible refine And.intro ?_ ?_) | (intro h))
  all_goals (try simp only [decide_eq_true_eq, decide_eq_false_iff_not, beq_iff_eq, bne_iff_ne, beq_eq_false_iff_ne, bne_eq_false_iff_eq, Int.toNat_natCast, ge_iff_le, gt_iff_lt, Bool.not_eq_true', Bool.not_eq_false', Int.not_lt, Int.not_le, ne_eq] at *)
  all_goals (try dsimp only [Ty.den, Ty.dflt, VerT] at *)
  all_goals (try simp only [eq4, ne4, eq3, ne3, eq2, ne2, Prod.eta, List.length_cons, List.length_nil, List.length_append, Nat.zero_add] at *)
  all_goals (try simp (disch := omega) only [wrap64] at *)
  all_goals try first | exact leafDraw (by kernel_rfl) | exact Leaf.mk trivial | (refine Leaf.mk ?_; omega) | (refine Leaf.mk ?_; unfold maxLen; omega)
  all_goals first
    | exact Leaf.mk (ret1 (show false = decide (xs = ys) by rw [eq_comm, decide_eq_false_iff_not]; exact same_not ver0 h))
    | exact Leaf.mk ⟨i + 1, rfl, ⟨by omega, same_step ver0 (by omega) he (by omega) h⟩, by omega⟩
    | exact Leaf.mk (ret1 (show true = decide (xs = ys) by rw [eq_comm, decide_eq_true_eq]; exact same_end (by omega) he (by omega)))
def sameS (a b : Stk) : Bool := decide (a = b)
def sSSame : PSpec := ⟨[.d StT, .d StT], [⟨false, [.d .bool]⟩], fun _ => True, fun x => ((sameS x.1 x.2.1, ()), ())⟩
theorem fSSame : FnOk Tryz.prog 91 := ⟨_, Tryz.func91, by decide, rfl⟩
theorem pSSame : PSound Tryz.prog 91 sSSame := by
  refine psound (T := tab) (S := (spOf [(156, sVEqual.spec (lsOf []))])) (keep := k91) (by kernel_rfl) tabOk (spCons (pOk pVEqual fVEqual (by decide) lsNil) spNil) (by kernel_rfl) Tryz.func91 (by kernel_rfl) (by decide) fun xs hg hp => ?_
  obtain ⟨⟨k, xs⟩, ⟨k2, ys⟩, ⟨⟩⟩ := xs
  change List UInt8 at k k2
  change List Ver at xs ys
  show vfun tab _ k91 Tryz.f91 [.agg [.s k, .sl VerT xs], .agg [.s k2, .sl VerT ys]] [] _
  refine Ev.out ?_
  repeat' (first | ((with_reducible refine Ev.mk ?_); conv => whnf) | (with_reducible refine And.intro ?_ ?_) | (intro h))
  all_goals (try simp only [decide_eq_true_eq, decide_eq_false_iff_not, beq_iff_eq, bne_iff_ne, beq_eq_false_iff_ne, bne_eq_false_iff_eq, Int.toNat_natCast, ge_iff_le, gt_iff_lt, Bool.not_eq_true', Bool.not_eq_false', Int.not_lt, Int.not_le, ne_eq] at *)
  all_goals (try dsimp only [Ty.den, Ty.dflt, VerT, sVEqual] at *)
  all_goals (try simp only [eq4, ne4, eq3, ne3, eq2, ne2, Prod.eta, List.length_cons, List.length_nil, List.length_append, Nat.zero_add] at *)
  all_goals (try simp (disch := omega) only [wrap64] at *)
  all_goals try first | exact leafDraw (by kernel_rfl) | exact Leaf.mk trivial | (refine Leaf.mk ?_; omega) | (refine Leaf.mk ?_; unfold maxLen; omega)
  all_goals first
    | exact Leaf.mk (ret1 (show decide (xs = ys) = decide ((k, xs) = (k2, ys)) by rw [h]; simp))
    | exact Leaf.mk (ret1 (show false = decide ((k, xs) = (k2, ys)) by rw [eq_comm, decide_eq_false_iff_not]; intro hc; exact h (congrArg Prod.fst hc)))
def sSSameR : PSpec := sSSame
theorem fSSameR : FnOk Tryz.prog 21 := ⟨_, Tryz.func21, by decide, rfl⟩
theorem pSSameR : PSound Tryz.prog 21 sSSameR := by
  refine psound (T := tab) (S := (spOf [])) (keep := k21) (by kernel_rfl) tabOk spNil (by kernel_rfl) Tryz.func21 (by kernel_rfl) (by decide) fun xs hg hp => ?_
  obtain ⟨⟨k, xs⟩, ⟨k2, ys⟩, ⟨⟩⟩ := xs
  obtain ⟨⟨-, hl, -⟩, ⟨-, hl2, -⟩, -⟩ := hg
  have hl := len63 hl
  have hl2 := len63 hl2
  change List UInt8 at k k2
  change List Ver at xs ys
  change xs.length ≤ _ at hl
  change ys.length ≤ _ at hl2
  clear hp
  show vfun tab _ k21 Tryz.f21 [.agg [.s k, .sl VerT xs], .agg [.s k2, .sl VerT ys]] [] _
  refine Ev.out ?_
  repeat' (first | ((with_reducible refine Ev.mk ?_); conv => whnf) | (with_reducible refine And.intro ?_ ?_) | (intro h))
  all_goals (try simp only [decide_eq_true_eq, decide_eq_false_iff_not, beq_iff_eq, bne_iff_ne, beq_eq_false_iff_ne, bne_eq_false_iff_eq, Int.toNat_natCast, ge_iff_le, gt_iff_lt, Bool.not_eq_true', Bool.not_eq_false', Int.not_lt, Int.not_le, ne_eq] at *)
  all_goals (try dsimp only [Ty.den, Ty.dflt, VerT] at *)
  all_goals (try simp only [eq4, ne4, eq3, ne3, eq2, ne2, Prod.eta, List.length_cons, List.length_nil, List.length_append, Nat.zero_add] at *)
  all_goals (try simp (disch := omega) only [wrap64] at *)
  all_goals try first | exact leafDraw (by kernel_rfl) | exact Leaf.mk trivial | (refine Leaf.mk ?_; omega) | (refine Leaf.mk ?_; unfold maxLen; omega)
  all_goals try first
    | exact Leaf.mk (ret1 (show false = decide ((k, xs) = (k2, ys)) by rw [eq_comm, decide_eq_false_iff_not]; intro hc; exact h (congrArg Prod.fst hc)))
    | exact Leaf.mk (ret1 (show false = decide ((k, xs) = (k2, ys)) by rw [eq_comm, decide_eq_false_iff_not]; intro hc; exact h (congrArg (fun q => ((List.length (α := Ver) (Prod.snd q) : Nat) : Int)) hc)))
  refine LoopVC.on (fun i : Nat => [(5, .i .i64 i)]) (fun _ => []) (fun i => i ≤ xs.length ∧ xs.take i = ys.take i) (fun i => xs.length - i) 0 rfl ⟨by omega, by simp⟩ ?_
  intro i ⟨hi, he⟩
  repeat' (first | ((with_reducible refine Ev.mk ?_); conv => whnf) | (with_reducible refine And.intro ?_ ?_) | (intro h))
  all_goals (try simp only [decide_eq_true_eq, decide_eq_false_iff_not, beq_iff_eq, bne_iff_ne, beq_eq_false_iff_ne, bne_eq_false_iff_eq, Int.toNat_natCast, ge_iff_le, gt_iff_lt, Bool.not_eq_true', Bool.not_eq_false', Int.not_lt, Int.not_le, ne_eq] at *)
  all_goals (try dsimp only [Ty.den, Ty.dflt, VerT] at *)
  all_goals (try simp only [eq4, ne4, eq3, ne3, eq2, ne2, Prod.eta, List.length_cons, List.length_nil, List.length_append, Nat.zero_add] at *)
  all_goals (try simp (disch := omega) only [wrap64] at *)
  all_goals try first | exact leafDraw (by kernel_rfl) | exact Leaf.mk trivial | (refine Leaf.mk ?_; omega) | (refine Leaf.mk ?_; unfold maxLen; omega)
  all_goals first
    | exact Leaf.mk (ret1 (show false = decide ((k, xs) = (k2, ys)) by rw [eq_comm, decide_eq_false_iff_not]; intro hc; exact same_not ver0 h (congrArg Prod.snd hc)))
    | exact Leaf.mk ⟨i + 1, rfl, ⟨by omega, same_step ver0 (by omega) he (by omega) h⟩, by omega⟩
    | exact Leaf.mk (ret1 (show true = decide ((k, xs) = (k2, ys)) by rw [eq_comm, decide_eq_true_eq]; rw [same_end (by omega) he (by omega)]; congr 1))
theorem putQ {α : Type} {u v : α × List Int × Int} (h : u = v) : (some ((u.2, ()), (u.1, ()), ()) : Option (((List Int × Int) × Unit) × (α × Unit) × Unit)) = some ((v.2, ()), (v.1, ()), ()) := by rw [h]
def sRSmall : PSpec := ⟨[.d RdT], [⟨true, [.d RdT]⟩, ⟨false, [.d (.int .i64)]⟩], fun _ => True, fun x => (((rdSmall x.1.1 x.1.2).2, ()), ((rdSmall x.1.1 x.1.2).1, ()), ())⟩
theorem fRSmall : FnOk Tryz.prog 100 := ⟨_, Tryz.func100, by decide, rfl⟩
theorem pRSmall : PSound Tryz.prog 100 sRSmall := by
  refine psound (T := tab) (S := (spOf [(164, sGetSmallR.spec (lsOf []))])) (keep := k100) (by kernel_rfl) tabOk (spCons (pOk pGetSmallR fGetSmallR (by decide) lsNil) spNil) (by kernel_rfl) Tryz.func100 (by kernel_rfl) (by decide) fun xs hg hp => ?_
  obtain ⟨⟨b, e⟩, ⟨⟩⟩ := xs
  change List Int at b
  change Int at e
  obtain ⟨⟨⟨hl, hx⟩, -⟩, -⟩ := hg
  clear hl hp
  change ∀ x ∈ b, Eng.Good (.int .u8) x at hx
  have hb0 := getSmall_bd hx
  clear hx
  show vfun tab _ k100 Tryz.f100 [.agg [.sl (.int .u8) b, .i .i64 e]] [] _
  refine Ev.out ?_
  repeat' (first | ((with_reducible refine Ev.mk ?_); conv => whnf) | (with_reducible refine And.intro ?_ ?_) | (intro h))
  all_goals (try simp only [decide_eq_true_eq, decide_eq_false_iff_not, beq_iff_eq, bne_iff_ne, beq_eq_false_iff_ne, bne_eq_false_iff_eq, Int.toNat_natCast, ge_iff_le, gt_iff_lt, Bool.not_eq_true', Bool.not_eq_false', Int.not_lt, Int.not_le, ne_eq] at *)
  all_goals (try dsimp only [Ty.den, Ty.dflt, BT, sGetSmallR, sGetSmall] at *)
  all_goals (try simp only [eq4, ne4, eq3, ne3, eq2, ne2, Prod.eta, List.length_cons, List.length_nil, List.length_append, Nat.zero_add] at *)
  all_goals (try simp (disch := omega) only [wrap64] at *)
  all_goals try first | exact leafDraw (by kernel_rfl) | exact Leaf.mk trivial | (refine Leaf.mk ?_; omega) | (refine Leaf.mk ?_; unfold maxLen; omega)
  · refine Leaf.mk (putQ (u := (0, b, e)) (v := rdSmall b e) ?_)
    unfold rdSmall
    repeat first | rw [if_pos (by assumption)] | rw [if_neg (Int.not_lt.2 (by assumption))] | rw [if_neg (Classical.not_not.2 (by assumption))]
  · skip
    refine Leaf.mk (putQ (u := (0, b, (getSmall b).2.2)) (v := rdSmall b e) ?_)
    unfold rdSmall
    repeat first | rw [if_pos (by assumption)] | rw [if_neg (Int.not_lt.2 (by assumption))] | rw [if_neg (Classical.not_not.2 (by assumption))]
  · skip
    refine Leaf.mk (putQ (u := (0, b, 9)) (v := rdSmall b e) ?_)
    unfold rdSmall
    repeat first | rw [if_pos (by assumption)] | rw [if_neg (Int.not_lt.2 (by assumption))] | rw [if_neg (Classical.not_not.2 (by assumption))]
  · skip
    rw [List.take_length]
    refine Leaf.mk (putQ (u := ((getSmall b).1, b.drop (getSmall b).2.1.toNat, 0)) (v := rdSmall b e) ?_)
    unfold rdSmall
    repeat first | rw [if_pos (by assumption)] | rw [if_neg (Int.not_lt.2 (by assumption))] | rw [if_neg (Classical.not_not.2 (by assumption))]
def sRText : PSpec := ⟨[.d RdT, .d (.int .i64)], [⟨true, [.d RdT]⟩, ⟨false, [.d .str]⟩], fun x => List.length (α := Int) x.1.1 ≤ 100000, fun x => (((rdText x.1.1 x.1.2 x.2.1).2, ()), ((rdText x.1.1 x.1.2 x.2.1).1, ()), ())⟩
theorem fRText : FnOk Tryz.prog 177 := ⟨_, Tryz.func177, by decide, rfl⟩
theorem pRText : PSound Tryz.prog 177 sRText := by
  refine psound (T := tab) (S := (spOf [(222, sGetTextR.spec (lsOf []))])) (keep := k177) (by kernel_rfl) tabOk (spCons (pOk pGetTextR fGetTextR (by decide) lsNil) spNil) (by kernel_rfl) Tryz.func177 (by kernel_rfl) (by decide) fun xs hg hp => ?_
  obtain ⟨⟨b, e⟩, most, ⟨⟩⟩ := xs
  change List Int at b
  change Int at e
  change Int at most
  change b.length ≤ 100000 at hp
  show vfun tab _ k177 Tryz.f177 [.agg [.sl (.int .u8) b, .i .i64 e], .i .i64 most] [] _
  refine Ev.out ?_
  repeat' (first | ((with_reducible refine Ev.mk ?_); conv => whnf) | (with_reducible refine And.intro ?_ ?_) | (intro h))
  all_goals (try simp only [decide_eq_true_eq, decide_eq_false_iff_not, beq_iff_eq, bne_iff_ne, beq_eq_false_iff_ne, bne_eq_false_iff_eq, Int.toNat_natCast, ge_iff_le, gt_iff_lt, Bool.not_eq_true', Bool.not_eq_false', Int.not_lt, Int.not_le, ne_eq] at *)
  all_goals (try dsimp only [Ty.den, Ty.dflt, BT, sGetTextR, sGetText] at *)
  all_goals (try simp only [eq4, ne4, eq3, ne3, eq2, ne2, Prod.eta, List.length_cons, List.length_nil, List.length_append, Nat.zero_add] at *)
  all_goals (try simp (disch := omega) only [wrap64] at *)
  all_goals have hb := getText_bd b
  all_goals try first | exact leafDraw (by kernel_rfl) | exact Leaf.mk trivial | (refine Leaf.mk ?_; omega) | (refine Leaf.mk ?_; unfold maxLen; omega)
  · refine Leaf.mk (putQ (u := ([], b, e)) (v := rdText b e most) ?_)
    unfold rdText
    repeat first | rw [if_pos (by assumption)] | rw [if_neg (Int.not_lt.2 (by assumption))] | rw [if_neg (Classical.not_not.2 (by assumption))]
  · skip
    refine Leaf.mk (putQ (u := ([], b, (getText b).2.2)) (v := rdText b e most) ?_)
    unfold rdText
    repeat first | rw [if_pos (by assumption)] | rw [if_neg (Int.not_lt.2 (by assumption))] | rw [if_neg (Classical.not_not.2 (by assumption))]
  · skip
    refine Leaf.mk (putQ (u := ([], b, 5)) (v := rdText b e most) ?_)
    unfold rdText
    repeat first | rw [if_pos (by assumption)] | rw [if_neg (Int.not_lt.2 (by assumption))] | rw [if_neg (Classical.not_not.2 (by assumption))]
  · skip
    rw [List.take_length]
    refine Leaf.mk (putQ (u := ((getText b).1, b.drop (getText b).2.1.toNat, 0)) (v := rdText b e most) ?_)
    unfold rdText
    repeat first | rw [if_pos (by assumption)] | rw [if_neg (Int.not_lt.2 (by assumption))] | rw [if_neg (Classical.not_not.2 (by assumption))]
end Go.Proofs.YtkmfjlfejdoehaaGreat

set_option linter.unusedVariables false
set_option linter.unusedSimpArgs false
set_option maxRecDepth 8000
namespace Go.Proofs.YtkmfjlfejdoehaaGreat
open Go.Eng
theorem rdSmall_put {n : Int} (h0 : 0 ≤ n) (h1 : n ≤ 1099511627776) (r : List Int) : rdSmall (putSmall n ++ r) 0 = (n, r, 0) := by
  have hg := getSmall_put (n := n) (by omega) r
  rw [rdSmall, if_neg (by simp), hg]
  dsimp only
  rw [if_neg (by simp), if_neg (by omega), Int.toNat_natCast, List.drop_left']
  rfl
theorem rdText_put {k : List UInt8} {m : Int} (h0 : (k.length : Int) ≤ m) (r : List Int) : rdText (putText k ++ r) 0 m = (k, r, 0) := by
  have hg := getText_put k r
  rw [rdText, if_neg (by simp), hg]
  dsimp only
  rw [if_neg (by simp), if_neg (by split <;> omega), Int.toNat_natCast, List.drop_left']
  rfl
def putV (v : Ver) : List Int := putSmall v.1 ++ (putSmall v.2.1 ++ ((if v.2.2.1 = true then 1 else 0) :: putText v.2.2.2))
def putS (s : Stk) : List Int := putText s.1 ++ (putSmall s.2.length ++ s.2.flatMap putV)
structure VerOk (v : Ver) : Prop where
  val : v.2.2.2.length ≤ 24
  gone : v.2.2.1 = true → v.2.2.2 = []
  txn : 0 ≤ v.1 ∧ v.1 ≤ 1099511627776
  ts : 0 ≤ v.2.1 ∧ v.2.1 ≤ 1099511627776
theorem verC_ok {v : Ver} : verC v = 0 ↔ VerOk v := by
  unfold verC inB
  constructor
  · intro h
    split at h
    · omega
    split at h
    · omega
    split at h
    · rename_i h1 h2 h3
      refine ⟨by omega, fun hg => ?_, of_decide_eq_true h3.1, of_decide_eq_true h3.2⟩
      by_cases hv : v.2.2.2 = []
      · exact hv
      · exact absurd ⟨hg, hv⟩ h2
    · omega
  · intro h
    rw [if_neg (by have := h.val; omega), if_neg (fun hc => hc.2 (h.gone hc.1)), if_pos ⟨decide_eq_true h.txn, decide_eq_true h.ts⟩]
structure StkOk (s : Stk) : Prop where
  key : s.1.length ≤ 16
  len : s.2.length ≤ 8
  all : ∀ v ∈ s.2, VerOk v
  ord : ordered s.2 = true
theorem firstBad_iff (xs : List Ver) : firstBad xs = 0 ↔ ∀ v ∈ xs, VerOk v := by
  induction xs with
  | nil => simp [firstBad]
  | cons x r ih =>
    rw [firstBad]
    split
    · rename_i h
      rw [ih]
      simp [verC_ok.1 h]
    · rename_i h
      constructor
      · intro hc; exact absurd hc h
      · intro hc; exact absurd (verC_ok.2 (hc x (by simp))) h
theorem check_ok {s : Stk} : check s = 0 ↔ StkOk s := by
  unfold check
  constructor
  · intro h
    split at h
    · omega
    split at h
    · omega
    split at h
    · rename_i h1 h2 h3
      split at h
      · rename_i h4; exact ⟨by omega, by omega, (firstBad_iff _).1 h3, h4⟩
      · omega
    · rename_i h3; exact absurd h h3
  · intro h
    rw [if_neg (by have := h.key; omega), if_neg (by have := h.len; omega), if_pos ((firstBad_iff _).2 h.all), if_pos h.ord]
def takeL : Nat → Int → Int → List Int → Int → List Ver → List Int × Int × List Ver
  | 0, _, _, b, e, acc => (b, e, acc)
  | f + 1, n, i, b, e, acc =>
    if (i < n ∧ i ≤ 8) ∧ e = 0 then
      let t := rdSmall b e
      let u := rdSmall t.2.1 t.2.2
      let g : Bool × List Int := if u.2.2 = 0 ∧ 0 < u.2.1.length then (decide (u.2.1.getD 0 0 = 1), u.2.1.drop 1) else (false, u.2.1)
      let w := rdText g.2 u.2.2 24
      takeL f n (i + 1) w.2.1 w.2.2 (acc ++ [(t.1, u.1, g.1, w.1)])
    else (b, e, acc)
def takeF (b : List Int) (e : Int) : (List Int × Int) × Stk :=
  let t := rdText b e 16
  let n := rdSmall t.2.1 t.2.2
  let l := takeL 10 n.1 0 n.2.1 n.2.2 []
  ((l.1, l.2.1), (t.1, l.2.2))
theorem takeL_stop {n : Int} {i : Int} (f : Nat) (b : List Int) (e : Int) (acc : List Ver) (h : ¬ ((i < n ∧ i ≤ 8) ∧ e = 0)) : takeL f n i b e acc = (b, e, acc) := by
  cases f with
  | zero => rfl
  | succ f => rw [takeL, if_neg h]
theorem takeL_put (r : List Int) : ∀ (vs : List Ver) (f : Nat) (n i : Int) (acc : List Ver), (∀ v ∈ vs, VerOk v) → n = i + vs.length → n ≤ 8 → vs.length ≤ f → takeL f n i (vs.flatMap putV ++ r) 0 acc = (r, 0, acc ++ vs)
  | [], f, n, i, acc, _, hn, _, _ => by
    rw [takeL_stop _ _ _ _ (by simp at hn; omega)]; simp
  | v :: vs, 0, _, _, _, _, _, _, h => by simp at h
  | v :: vs, f + 1, n, i, acc, hv, hn, h8, hf => by
    have ok := hv v (by simp)
    simp only [List.length_cons] at hn hf
    rw [takeL, if_pos (by omega)]
    have hb : List.flatMap putV (v :: vs) ++ r = putSmall v.1 ++ (putSmall v.2.1 ++ ((if v.2.2.1 = true then 1 else 0) :: (putText v.2.2.2 ++ (vs.flatMap putV ++ r)))) := by
      simp [putV]
    rw [hb, rdSmall_put ok.txn.1 ok.txn.2]
    dsimp only
    rw [rdSmall_put ok.ts.1 ok.ts.2]
    dsimp only
    rw [if_pos ⟨rfl, by simp⟩]
    dsimp only
    rw [List.drop_one, List.tail_cons, rdText_put (by have := ok.val; omega)]
    dsimp only
    rw [takeL_put r vs f n (i + 1) _ (fun x hx => hv x (by simp [hx])) (by omega) h8 (by omega)]
    have hg : decide (((if v.2.2.1 = true then (1 : Int) else 0) :: (putText v.2.2.2 ++ (vs.flatMap putV ++ r))).getD 0 0 = 1) = v.2.2.1 := by
      cases v.2.2.1 <;> simp
    rw [hg, List.append_assoc]; rfl
theorem takeF_put {s : Stk} (h : check s = 0) (r : List Int) : takeF (putS s ++ r) 0 = ((r, 0), s) := by
  have ok := check_ok.1 h
  have hl := ok.len
  unfold takeF putS
  rw [List.append_assoc, rdText_put (by have := ok.key; omega)]
  dsimp only
  rw [List.append_assoc, rdSmall_put (by omega) (by omega)]
  dsimp only
  rw [takeL_put r s.2 10 s.2.length 0 [] ok.all (by omega) (by omega) (by omega)]
  rfl
def getS (b : List Int) : Stk × Int := if check (takeF b 0).2 = 0 ∧ putS (takeF b 0).2 = b then ((takeF b 0).2, 0) else (([], []), 4)
theorem getS_put {s : Stk} {b : List Int} (h : check s = 0) (hb : putS s = b) : getS b = (s, 0) := by
  subst hb
  have := takeF_put h []
  rw [List.append_nil] at this
  unfold getS
  rw [this, if_pos ⟨h, rfl⟩]
theorem getS_not {b : List Int} (h : ∀ s, check s = 0 → putS s ≠ b) : getS b = (([], []), 4) := by
  unfold getS
  rw [if_neg (fun hc => h _ hc.1 hc.2)]
theorem flat_len {α : Type} (f : Ver → List α) (m : Nat) : ∀ (l : List Ver), (∀ v ∈ l, (f v).length ≤ m) → (l.flatMap f).length ≤ l.length * m
  | [], _ => by simp
  | v :: r, h => by
    have h1 := h v (by simp)
    have h2 := flat_len f m r (fun x hx => h x (by simp [hx]))
    simp only [List.flatMap_cons, List.length_append, List.length_cons, Nat.add_mul, Nat.one_mul]
    omega
theorem putV_len {v : Ver} (h : VerOk v) : (putV v).length ≤ 69 := by
  have h1 := putSmall_len v.1
  have h2 := putSmall_len v.2.1
  have h3 := putText_len v.2.2.2
  have h4 := h.val
  simp only [putV, List.length_append, List.length_cons]; omega
theorem putS_len {s : Stk} (h : check s = 0) : (putS s).length ≤ 595 := by
  have ok := check_ok.1 h
  have h1 := putText_len s.1
  have h2 := putSmall_len s.2.length
  have h3 := flat_len putV 69 s.2 (fun v hv => putV_len (ok.all v hv))
  have := ok.key; have := ok.len
  have h4 : s.2.length * 69 ≤ 552 := by omega
  simp only [putS, List.length_append]; omega
theorem isB_V (v : Ver) : isB (putV v) := by
  refine isB_append (isB_small _) (isB_append (isB_small _) fun x hx => ?_)
  rcases List.mem_cons.1 hx with rfl | hx
  · split <;> omega
  · exact isB_put _ x hx
theorem isB_flat (l : List Ver) : isB (l.flatMap putV) := fun x hx => by
  obtain ⟨v, _, hv⟩ := List.mem_flatMap.1 hx
  exact isB_V v x hv
theorem isB_S (s : Stk) : isB (putS s) := isB_append (isB_put _) (isB_append (isB_small _) (isB_flat _))
end Go.Proofs.YtkmfjlfejdoehaaGreat

set_option linter.unusedVariables false
set_option linter.unusedSimpArgs false
set_option maxRecDepth 8000
set_option maxHeartbeats 4000000
namespace Go.Proofs.YtkmfjlfejdoehaaGreat
open Go.Eng
theorem wrapu {n : Int} (h : 0 ≤ n ∧ n ≤ 1099511627776) : IntKind.u64.wrap n = n := by rw [wrapU64]; omega
def putR11 (s : Stk) : List Int × Int := if check s = 0 then (putS s, 0) else ([], check s)
def sSPut : PSpec := ⟨[.d StT], [⟨false, [.d BT]⟩, ⟨false, [.d (.int .i64)]⟩], fun _ => True, fun x => (((putR11 x.1).1, ()), ((putR11 x.1).2, ()), ())⟩
theorem retB {u v : List Int × Int} (h : u = v) : (some ((u.1, ()), (u.2, ()), ()) : Option ((List Int × Unit) × (Int × Unit) × Unit)) = some ((v.1, ()), (v.2, ()), ()) := by rw [h]
theorem fSPut : FnOk Tryz.prog 157 := ⟨_, Tryz.func157, by decide, rfl⟩
theorem pSPut : PSound Tryz.prog 157 sSPut := by
  refine psound (T := tab) (S := (spOf [(84, sCheck.spec (lsOf [])), (203, sPutText.spec (lsOf [])), (153, sPutSmall.spec (lsOf [])), (205, sFlag.spec (lsOf [])), (204, sConcatB.spec (lsOf []))])) (keep := k157) (by kernel_rfl) tabOk (spCons (pOk pCheck fCheck (by decide) lsNil) (spCons (pOk pPutText fPutText (by decide) lsNil) (spCons (pOk pPutSmall fPutSmall (by decide) lsNil) (spCons (pOk pFlag fFlag (by decide) lsNil) (spCons (pOk pConcatB fConcatB (by decide) lsNil) spNil))))) (by kernel_rfl) Tryz.func157 (by kernel_rfl) (by decide) fun xs hg hp => ?_
  obtain ⟨⟨key, xs⟩, ⟨⟩⟩ := xs
  change List UInt8 at key
  change List Ver at xs
  clear hp hg
  show vfun tab _ k157 Tryz.f157 [.agg [.s key, .sl VerT xs]] [] _
  refine Ev.out ?_
  repeat' (first | ((with_reducible refine Ev.mk ?_); conv => whnf) | (with_reducible refine And.intro ?_ ?_) | (intro h))
  all_goals (try simp only [decide_eq_true_eq, decide_eq_false_iff_not, beq_iff_eq, bne_iff_ne, beq_eq_false_iff_ne, bne_eq_false_iff_eq, Int.toNat_natCast, ge_iff_le, gt_iff_lt, Bool.not_eq_true', Bool.not_eq_false', Int.not_lt, Int.not_le, ne_eq] at *)
  all_goals (try dsimp only [Ty.den, Ty.dflt, VerT, sCheck, sPutText, sPutSmall] at *)
  all_goals (try simp only [eq4, ne4, eq3, ne3, eq2, ne2, Prod.eta, List.length_cons, List.length_nil, List.length_append, Nat.zero_add] at *)
  all_goals (try simp (disch := omega) only [wrap64] at *)
  all_goals try first | exact leafDraw (by kernel_rfl) | exact Leaf.mk trivial | (refine Leaf.mk ?_; omega) | (refine Leaf.mk ?_; unfold maxLen; omega)
  · exact Leaf.mk (retB (u := ([], check (key, xs))) (if_neg h).symm)
  all_goals
    have ok := check_ok.1 ‹check (key, xs) = 0›
    have hk := ok.key
    have hl := ok.len
    dsimp only at hk hl
    have h1 := putText_len key
    have h2 := putSmall_len xs.length
  · exact Leaf.mk (show key.length ≤ 100000 by omega)
  all_goals rw [wrapu (by omega)]
  · exact Leaf.mk (by omega)
  · exact Leaf.mk (by unfold maxLen; omega)
  have hS : putR11 (key, xs) = (putS (key, xs), 0) := if_pos ‹check (key, xs) = 0›
  have hva : ∀ i, i < xs.length → VerOk (xs.getD i ver0) := fun i hi => ok.all _ (getD_mem ver0 hi)
  refine LoopVC.weak [(.slot 5, .frz)] (fun i : Nat => [(5, .sl (.int .u8) (putText key ++ putSmall xs.length ++ (xs.take i).flatMap putV)), (25, .i .i64 i)]) (fun _ => []) (fun i => i ≤ xs.length) (fun i => xs.length - i) 0 (Ev.mk ?_)
  (conv => whnf)
  refine ⟨Leaf.mk ?_, Leaf.mk ?_, ?_⟩
  · simp only [List.take_zero, List.flatMap_nil, List.append_nil]; rfl
  · omega
  intro i hi
  have hfl := flat_len putV 69 (xs.take i) (fun v hv => putV_len (ok.all v (List.mem_of_mem_take hv)))
  have htl : (xs.take i).length * 69 ≤ 552 := by rw [List.length_take]; omega
  repeat' (first | ((with_reducible refine Ev.mk ?_); conv => whnf) | (with_reducible refine And.intro ?_ ?_) | (intro h))
  all_goals (try simp only [decide_eq_true_eq, decide_eq_false_iff_not, beq_iff_eq, bne_iff_ne, beq_eq_false_iff_ne, bne_eq_false_iff_eq, Int.toNat_natCast, ge_iff_le, gt_iff_lt, Bool.not_eq_true', Bool.not_eq_false', Int.not_lt, Int.not_le, ne_eq] at *)
  all_goals (try dsimp only [Ty.den, Ty.dflt, VerT, sPutText, sPutSmall, sFlag] at *)
  all_goals (try simp only [eq4, ne4, eq3, ne3, eq2, ne2, Prod.eta, List.length_cons, List.length_nil, List.length_append, Nat.zero_add] at *)
  all_goals (try simp (disch := omega) only [wrap64] at *)
  all_goals try first | exact leafDraw (by kernel_rfl) | exact Leaf.mk trivial | (refine Leaf.mk ?_; omega) | (refine Leaf.mk ?_; unfold maxLen; omega)
  · exact Leaf.mk (show (xs.getD i ver0).2.2.2.length ≤ 100000 by have := (hva i (by omega)).val; omega)
  · have hv := hva i (by omega)
    have hvl := putV_len hv
    have h3 := flat_len putV 69 (xs.take i) (fun v hv => putV_len (ok.all v (List.mem_of_mem_take hv)))
    rw [wrapu (n := (xs.getD i ver0).1) hv.txn, wrapu (n := (xs.getD i ver0).2.1) hv.ts]
    refine Leaf.mk (show 5 ≤ 1000 ∧ (List.flatten (α := Int) _).length ≤ 1000000 from ⟨by omega, ?_⟩)
    simp only [putV, List.length_append, List.length_cons] at hvl
    dsimp only [ver0] at hvl ⊢
    simp only [List.flatten_cons, List.flatten_nil, List.length_append, List.length_cons, List.length_nil]
    omega
  · have hv := hva i (by omega)
    rw [wrapu (n := (xs.getD i ver0).1) hv.txn, wrapu (n := (xs.getD i ver0).2.1) hv.ts]
    refine Leaf.mk ⟨i + 1, ?_, by omega, by omega⟩
    rw [flatMap_at ver0 (by omega)]
    have e : (sConcatB.fn ([putText key ++ putSmall xs.length ++ (xs.take i).flatMap putV, putSmall (xs.getD i ver0).1, putSmall (xs.getD i ver0).2.1, [if (xs.getD i ver0).2.2.1 = true then 1 else 0], putText (xs.getD i ver0).2.2.2], ())).1.1 = putText key ++ putSmall xs.length ++ ((xs.take i).flatMap putV ++ putV (xs.getD i ver0)) := by
      show List.flatten _ = _
      simp [putV]
    exact congrArg (fun l => (⟨[(5, V.sl (.int .u8) l), (23, V.sl VerT xs), (24, V.i .i64 (xs.length : Int)), (25, V.i .i64 ((i : Int) + 1))], []⟩ : St)) e
  · rw [List.take_of_length_le (by omega)]
    refine Leaf.mk (retB (u := (putText key ++ putSmall xs.length ++ xs.flatMap putV, 0)) ?_)
    show _ = putR11 (key, xs)
    rw [hS, putS, List.append_assoc]
end Go.Proofs.YtkmfjlfejdoehaaGreat

set_option linter.unusedVariables false
set_option linter.unusedSimpArgs false
namespace Go.Proofs.YtkmfjlfejdoehaaGreat
open Go.Eng
def rel (me at' : Int) (v : Ver) : Bool := pend me v || okTs at' v
theorem firstZ_not (xs : List Ver) : ∀ j, j < firstZ xs → j < xs.length ∧ (xs.getD j ver0).2.1 ≠ 0 := by
  have gen : ∀ (xs : List Ver) (i : Nat), ∀ j : Nat, j < xs.length → (idxF ordered1 xs i < 0 ∨ (i : Int) + j < idxF ordered1 xs i) → (xs.getD j ver0).2.1 ≠ 0 := by
    intro xs
    induction xs with
    | nil => intro i j h; simp at h
    | cons x r ih =>
      intro i j hj h hc
      rw [idxF] at h
      split at h
      · omega
      · rename_i hx
        cases j with
        | zero => exact hx (by simpa [ordered1] using hc)
        | succ j => exact ih (i + 1) j (by simpa using hj) (by omega) (by simpa using hc)
  intro j hj
  unfold firstZ at hj
  have hp := idxF_pos ordered1 xs 0
  split at hj
  · exact ⟨hj, gen xs 0 j hj (.inl (by assumption))⟩
  · exact ⟨by omega, gen xs 0 j (by omega) (.inr (by omega))⟩
theorem OrdA_mono {xs : List Ver} {n : Nat} (h : OrdA xs n) : ∀ (d i : Nat), i + d < n → (xs.getD i ver0).2.1 ≤ (xs.getD (i + d) ver0).2.1
  | 0, i, _ => Int.le_refl _
  | d + 1, i, hn => by
    have h1 := OrdA_mono h d i (by omega)
    have h2 := h (i + (d + 1)) hn (by omega)
    rw [show i + (d + 1) - 1 = i + d by omega] at h2
    omega
end Go.Proofs.YtkmfjlfejdoehaaGreat

set_option linter.unusedVariables false
set_option linter.unusedSimpArgs false
set_option maxRecDepth 8000
set_option maxHeartbeats 4000000
namespace Go.Proofs.YtkmfjlfejdoehaaGreat
open Go.Eng
def badP (a b : Ver) : Bool := (decide (a.2.1 = 0) && (decide (¬ b.2.1 = 0) || decide (a.1 = b.1))) || (decide (¬ b.2.1 = 0) && decide (b.2.1 < a.2.1))
def sSCheckR : PSpec := sCheck
theorem OrdB_iff : ∀ (ys : List Ver) (l : List Int), OrdB ys l ↔ (∀ v ∈ ys, v.2.1 = 0 ∧ v.1 ∉ l) ∧ ys.Pairwise (fun a b => a.1 ≠ b.1)
  | [], l => by simp [OrdB]
  | v :: r, l => by
    rw [OrdB, OrdB_iff r (v.1 :: l), List.pairwise_cons]
    constructor
    · rintro ⟨h1, h2, h3, h4⟩
      refine ⟨fun w hw => ?_, fun w hw hc => (h3 w hw).2 (by simp [hc]), h4⟩
      rcases List.mem_cons.1 hw with rfl | hw
      · exact ⟨h1, h2⟩
      · exact ⟨(h3 w hw).1, fun hc => (h3 w hw).2 (by simp [hc])⟩
    · rintro ⟨h1, h2, h3⟩
      refine ⟨(h1 v (by simp)).1, (h1 v (by simp)).2, fun w hw => ⟨(h1 w (by simp [hw])).1, fun hc => ?_⟩, h3⟩
      rcases List.mem_cons.1 hc with hc | hc
      · exact h2 w hw hc.symm
      · exact (h1 w (by simp [hw])).2 hc
theorem firstZ_at (xs : List Ver) : firstZ xs ≤ xs.length ∧ (firstZ xs < xs.length → (xs.getD (firstZ xs) ver0).2.1 = 0) := by
  have hp := idxF_pos ordered1 xs 0
  unfold firstZ
  split
  · exact ⟨Nat.le_refl _, fun h => absurd h (Nat.lt_irrefl _)⟩
  · refine ⟨by omega, fun _ => ?_⟩
    rcases Go.Eng.idxF_find ver0 ordered1 xs 0 with ⟨h1, _⟩ | ⟨j, h1, h2, h3⟩
    · omega
    · have := List.find?_some h3
      rw [h1, show (((0 : Nat) : Int) + (j : Int)).toNat = j by omega]
      simpa [ordered1] using this
def okP (xs : List Ver) (i : Nat) : Prop := ∀ j, j < i → ∀ k, k < j → badP (xs.getD k ver0) (xs.getD j ver0) = false
theorem bad_false {a b : Ver} : badP a b = false ↔ (a.2.1 = 0 → b.2.1 = 0 ∧ a.1 ≠ b.1) ∧ (b.2.1 ≠ 0 → a.2.1 ≤ b.2.1) := by
  unfold badP
  rw [Bool.or_eq_false_iff, Bool.and_eq_false_iff, Bool.and_eq_false_iff, Bool.or_eq_false_iff]
  simp only [decide_eq_false_iff_not]
  constructor
  · rintro ⟨h1, h2⟩
    refine ⟨fun h => ?_, fun h => ?_⟩
    · rcases h1 with h1 | h1
      · exact absurd h h1
      · exact ⟨Classical.not_not.1 h1.1, h1.2⟩
    · rcases h2 with h2 | h2
      · exact absurd h h2
      · omega
  · rintro ⟨h1, h2⟩
    refine ⟨?_, ?_⟩
    · by_cases h : a.2.1 = 0
      · exact .inr ⟨Classical.not_not.2 (h1 h).1, (h1 h).2⟩
      · exact .inl h
    · by_cases h : b.2.1 = 0
      · exact .inl (Classical.not_not.2 h)
      · exact .inr (by have := h2 h; omega)
theorem ordered_iff {xs : List Ver} : ordered xs = true ↔ okP xs xs.length := by
  have hz := firstZ_at xs
  have hn := firstZ_not xs
  unfold ordered
  rw [decide_eq_true_iff, OrdB_iff]
  constructor
  · rintro ⟨h1, h2, h3⟩ j hj k hk
    have hmem : ∀ i, firstZ xs ≤ i → i < xs.length → (xs.getD i ver0).2.1 = 0 := fun i hi hl => (h2 _ (by
      rw [List.mem_iff_getElem]
      exact ⟨i - firstZ xs, by simp; omega, by simp [List.getD, hl]; congr 1; omega⟩)).1
    rw [bad_false]
    by_cases hjn : j < firstZ xs
    · have hm := OrdA_mono h1 (j - k) k (by omega)
      rw [show k + (j - k) = j by omega] at hm
      exact ⟨fun h => absurd h (hn k (by omega)).2, fun _ => hm⟩
    · have hj0 := hmem j (by omega) hj
      refine ⟨fun h => ⟨hj0, fun hc => ?_⟩, fun h => absurd hj0 h⟩
      have hkn : firstZ xs ≤ k := by
        rcases Nat.lt_or_ge k (firstZ xs) with h4 | h4
        · exact absurd h (hn k h4).2
        · exact h4
      rw [List.pairwise_iff_getElem] at h3
      have := h3 (k - firstZ xs) (j - firstZ xs) (by simp; omega) (by simp; omega) (by omega)
      simp only [List.getElem_drop] at this
      apply this
      have e1 : xs[firstZ xs + (k - firstZ xs)]'(by omega) = xs.getD k ver0 := by simp [List.getD, show k < xs.length by omega]; congr 1; omega
      have e2 : xs[firstZ xs + (j - firstZ xs)]'(by omega) = xs.getD j ver0 := by simp [List.getD, hj]; congr 1; omega
      rw [e1, e2]; exact hc
  · intro h
    have h' : ∀ j, j < xs.length → ∀ k, k < j → _ := fun j hj k hk => bad_false.1 (h j hj k hk)
    have hmem : ∀ i, firstZ xs ≤ i → i < xs.length → (xs.getD i ver0).2.1 = 0 := fun i hi hl => by
      rcases Nat.lt_or_ge (firstZ xs) i with h4 | h4
      · exact ((h' i hl (firstZ xs) h4).1 (hz.2 (by omega))).1
      · have : i = firstZ xs := by omega
        subst this; exact hz.2 hl
    refine ⟨fun j hj h1 => (h' j (by omega) (j - 1) (by omega)).2 (hn j hj).2, fun v hv => ⟨?_, by simp⟩, ?_⟩
    · rw [List.mem_iff_getElem] at hv
      obtain ⟨i, hi, rfl⟩ := hv
      simp at hi
      have := hmem (firstZ xs + i) (by omega) (by omega)
      simpa [List.getD, show firstZ xs + i < xs.length by omega] using this
    · rw [List.pairwise_iff_getElem]
      intro i j hi hj hij hc
      simp at hi hj
      simp only [List.getElem_drop] at hc
      have e1 : xs[firstZ xs + i]'(by omega) = xs.getD (firstZ xs + i) ver0 := by simp [List.getD, show firstZ xs + i < xs.length by omega]
      have e2 : xs[firstZ xs + j]'(by omega) = xs.getD (firstZ xs + j) ver0 := by simp [List.getD, show firstZ xs + j < xs.length by omega]
      rw [e1, e2] at hc
      exact ((h' (firstZ xs + j) (by omega) (firstZ xs + i) (by omega)).1 (hmem _ (by omega) (by omega))).2 hc
theorem verC_eq {v : Ver} : verC v = if 24 < v.2.2.2.length then 5 else if v.2.2.1 = true ∧ v.2.2.2 ≠ [] then 4 else if inB v.1 = true ∧ inB v.2.1 = true then 0 else 9 := rfl
theorem bad_ret {key : List UInt8} {xs : List Ver} {i : Nat} {c : Int} (hC : check (key, xs) = if firstBad xs = 0 then (if ordered xs = true then 0 else 12) else firstBad xs) (he : firstBad xs = firstBad (xs.drop i)) (hi : i < xs.length) (hv : verC (xs.getD i (0, 0, false, [])) = c) (h0 : ¬ c = 0) : c = check (key, xs) := by
  rw [firstBad_at hi, if_neg (by rw [hv]; exact h0)] at he
  rw [hC, he, hv, if_neg h0]
theorem good_step {xs : List Ver} {i : Nat} (he : firstBad xs = firstBad (xs.drop i)) (hi : i < xs.length) (hv : verC (xs.getD i (0, 0, false, [])) = 0) : firstBad xs = firstBad (xs.drop (i + 1)) := by
  rw [firstBad_at hi, if_pos hv] at he
  exact he
def sInR : PSpec := sIn
theorem fInR : FnOk Tryz.prog 152 := ⟨_, Tryz.func152, by decide, rfl⟩
theorem pInR : PSound Tryz.prog 152 sInR := by
  refine psound (T := tab) (S := (spOf [])) (keep := k152) (by kernel_rfl) tabOk spNil (by kernel_rfl) Tryz.func152 (by kernel_rfl) (by decide) fun xs hg hp => ?_
  obtain ⟨n, ⟨⟩⟩ := xs
  change Int at n
  show vfun tab _ k152 Tryz.f152 [.i .i64 n] [] _
  refine Ev.out ?_
  repeat' (first | ((with_reducible refine Ev.mk ?_); conv => whnf) | (with_reducible refine And.intro ?_ ?_) | (intro h))
  all_goals (try simp only [decide_eq_true_eq, decide_eq_false_iff_not, beq_iff_eq, bne_iff_ne, beq_eq_false_iff_ne, bne_eq_false_iff_eq, Int.toNat_natCast, ge_iff_le, gt_iff_lt, Bool.not_eq_true', Bool.not_eq_false', Int.not_lt, Int.not_le, ne_eq] at *)
  all_goals (try dsimp only [Ty.den, Ty.dflt, VerT] at *)
  all_goals (try simp only [eq4, ne4, eq3, ne3, eq2, ne2, Prod.eta, List.length_cons, List.length_nil, List.length_append, Nat.zero_add] at *)
  all_goals (try simp (disch := omega) only [wrap64] at *)
  all_goals
    refine Leaf.mk (ret1 (show _ = inB n from ?_))
    simp only [inB]
    first
    | (rw [decide_eq_false (p := 0 ≤ n ∧ n ≤ 1099511627776) (by omega)]; done)
    | (congr 1; simp only [eq_iff_iff]; omega)
theorem fSCheckR : FnOk Tryz.prog 87 := ⟨_, Tryz.func87, by decide, rfl⟩
theorem pSCheckR : PSound Tryz.prog 87 sSCheckR := by
  refine psound (T := tab) (S := (spOf [(152, sInR.spec (lsOf []))])) (keep := k87) (by kernel_rfl) tabOk (spCons (pOk pInR fInR (by decide) lsNil) spNil) (by kernel_rfl) Tryz.func87 (by kernel_rfl) (by decide) fun xs hg hp => ?_
  obtain ⟨⟨key, xs⟩, ⟨⟩⟩ := xs
  obtain ⟨⟨hk, hl, hx⟩, -⟩ := hg
  change List UInt8 at key
  change List Ver at xs
  change xs.length ≤ _ at hl
  have hl := len63 hl
  have hxv : ∀ i, i < xs.length → (xs.getD i ver0).2.2.2.length ≤ 9223372036854775807 := fun i hi => len63 (good_at (e := VerT) hx hi ver0).2.2.2
  clear hp
  show vfun tab _ k87 Tryz.f87 [.agg [.s key, .sl VerT xs]] [] _
  refine Ev.out ?_
  repeat' (first | ((with_reducible refine Ev.mk ?_); conv => whnf) | (with_reducible refine And.intro ?_ ?_) | (intro h))
  all_goals (try simp only [decide_eq_true_eq, decide_eq_false_iff_not, beq_iff_eq, bne_iff_ne, beq_eq_false_iff_ne, bne_eq_false_iff_eq, Int.toNat_natCast, ge_iff_le, gt_iff_lt, Bool.not_eq_true', Bool.not_eq_false', Int.not_lt, Int.not_le, ne_eq] at *)
  all_goals (try dsimp only [Ty.den, Ty.dflt, VerT, sVersion, sOrdered] at *)
  all_goals (try simp only [eq4, ne4, eq3, ne3, eq2, ne2, Prod.eta, List.length_cons, List.length_nil, List.length_append, Nat.zero_add] at *)
  all_goals (try simp (disch := omega) only [wrap64] at *)
  all_goals try first | exact leafDraw (by kernel_rfl) | exact Leaf.mk trivial | (refine Leaf.mk ?_; omega) | (refine Leaf.mk ?_; unfold maxLen; omega)
  · refine Leaf.mk (ret1 (show (5 : Int) = check (key, xs) from ?_))
    rw [check, if_pos (show 16 < key.length by omega)]
  · refine Leaf.mk (ret1 (show (7 : Int) = check (key, xs) from ?_))
    rw [check, if_neg (show ¬ 16 < key.length by omega), if_pos (show 8 < xs.length by omega)]
  have hC : check (key, xs) = if firstBad xs = 0 then (if ordered xs = true then 0 else 12) else firstBad xs := by
    rw [check, if_neg (show ¬ 16 < key.length by omega), if_neg (show ¬ 8 < xs.length by omega)]
  refine LoopVC.on (fun i : Nat => [(3, .i .i64 i)]) (fun _ => []) (fun i => i ≤ xs.length ∧ firstBad xs = firstBad (xs.drop i)) (fun i => xs.length - i) 0 rfl ⟨by omega, rfl⟩ ?_
  intro i ⟨hi, he⟩
  have hxi := hxv i
  dsimp only [ver0] at hxi
  repeat' (first | ((with_reducible refine Ev.mk ?_); conv => whnf) | (with_reducible refine And.intro ?_ ?_) | (intro h))
  all_goals (try simp only [decide_eq_true_eq, decide_eq_false_iff_not, beq_iff_eq, bne_iff_ne, beq_eq_false_iff_ne, bne_eq_false_iff_eq, Int.toNat_natCast, ge_iff_le, gt_iff_lt, Bool.not_eq_true', Bool.not_eq_false', Int.not_lt, Int.not_le, ne_eq] at *)
  all_goals (try dsimp only [Ty.den, Ty.dflt, VerT, sIn, sInR] at *)
  all_goals (try simp only [eq4, ne4, eq3, ne3, eq2, ne2, Prod.eta, List.length_cons, List.length_nil, List.length_append, Nat.zero_add] at *)
  all_goals (try simp (disch := omega) only [wrap64] at *)
  all_goals try first | exact leafDraw (by kernel_rfl) | exact Leaf.mk trivial | (refine Leaf.mk ?_; omega) | (refine Leaf.mk ?_; unfold maxLen; omega)
  · have hv : verC (xs.getD i (0, 0, false, [])) = 5 := by
      rw [verC_eq]
      repeat' split
      all_goals first | rfl | (exfalso; first | omega | simp_all)
    exact Leaf.mk (ret1 (bad_ret (c := 5) hC he (by omega) hv (by decide)))
  · have hv : verC (xs.getD i (0, 0, false, [])) = 4 := by
      rw [verC_eq]
      repeat' split
      all_goals first | rfl | (exfalso; first | omega | simp_all)
    exact Leaf.mk (ret1 (bad_ret (c := 4) hC he (by omega) hv (by decide)))
  · have hv : verC (xs.getD i (0, 0, false, [])) = 9 := by
      rw [verC_eq]
      repeat' split
      all_goals first | rfl | (exfalso; first | omega | simp_all)
    exact Leaf.mk (ret1 (bad_ret (c := 9) hC he (by omega) hv (by decide)))
  · have hv : verC (xs.getD i (0, 0, false, [])) = 9 := by
      rw [verC_eq]
      repeat' split
      all_goals first | rfl | (exfalso; first | omega | simp_all)
    exact Leaf.mk (ret1 (bad_ret (c := 9) hC he (by omega) hv (by decide)))
  · have hv : verC (xs.getD i (0, 0, false, [])) = 0 := by
      rw [verC_eq]
      repeat' split
      all_goals first | rfl | (exfalso; first | omega | simp_all)
    exact Leaf.mk ⟨i + 1, rfl, ⟨by omega, good_step he (by omega) hv⟩, by omega⟩
  · have hv : verC (xs.getD i (0, 0, false, [])) = 9 := by
      rw [verC_eq]
      repeat' split
      all_goals first | rfl | (exfalso; first | omega | simp_all)
    exact Leaf.mk (ret1 (bad_ret (c := 9) hC he (by omega) hv (by decide)))
  · have hv : verC (xs.getD i (0, 0, false, [])) = 9 := by
      rw [verC_eq]
      repeat' split
      all_goals first | rfl | (exfalso; first | omega | simp_all)
    exact Leaf.mk (ret1 (bad_ret (c := 9) hC he (by omega) hv (by decide)))
  · have hv : verC (xs.getD i (0, 0, false, [])) = 0 := by
      rw [verC_eq]
      repeat' split
      all_goals first | rfl | (exfalso; first | omega | simp_all)
    exact Leaf.mk ⟨i + 1, rfl, ⟨by omega, good_step he (by omega) hv⟩, by omega⟩
  rw [drop_end (by omega)] at he
  have hC2 : check (key, xs) = if ordered xs = true then 0 else 12 := by rw [hC, if_pos (show firstBad xs = 0 from he)]
  clear hxi hxv hx
  refine LoopVC.on (fun i : Nat => [(5, .i .i64 i)]) (fun _ => []) (fun i => i ≤ xs.length ∧ okP xs i) (fun i => xs.length - i) 0 rfl ⟨by omega, fun j hj => by omega⟩ ?_
  intro i ⟨hi, ho⟩
  repeat' (first | ((with_reducible refine Ev.mk ?_); conv => whnf) | (with_reducible refine And.intro ?_ ?_) | (intro h))
  all_goals (try simp only [decide_eq_true_eq, decide_eq_false_iff_not, beq_iff_eq, bne_iff_ne, beq_eq_false_iff_ne, bne_eq_false_iff_eq, Int.toNat_natCast, ge_iff_le, gt_iff_lt, Bool.not_eq_true', Bool.not_eq_false', Int.not_lt, Int.not_le, ne_eq] at *)
  all_goals (try dsimp only [Ty.den, Ty.dflt, VerT, sIn, sInR] at *)
  all_goals (try simp only [eq4, ne4, eq3, ne3, eq2, ne2, Prod.eta, List.length_cons, List.length_nil, List.length_append, Nat.zero_add] at *)
  all_goals (try simp (disch := omega) only [wrap64] at *)
  all_goals try first | exact leafDraw (by kernel_rfl) | exact Leaf.mk trivial | (refine Leaf.mk ?_; omega) | (refine Leaf.mk ?_; unfold maxLen; omega)
  · refine LoopVC.on (fun k : Nat => [(6, .i .i64 k)]) (fun _ => []) (fun k => k ≤ i ∧ ∀ j, j < k → badP (xs.getD j ver0) (xs.getD i ver0) = false) (fun k => i - k) 0 rfl ⟨by omega, fun j hj => by omega⟩ ?_
    intro k ⟨hk, hb⟩
    repeat' (first | ((with_reducible refine Ev.mk ?_); conv => whnf) | (with_reducible refine And.intro ?_ ?_) | (intro h))
    all_goals (try simp only [decide_eq_true_eq, decide_eq_false_iff_not, beq_iff_eq, bne_iff_ne, beq_eq_false_iff_ne, bne_eq_false_iff_eq, Int.toNat_natCast, ge_iff_le, gt_iff_lt, Bool.not_eq_true', Bool.not_eq_false', Int.not_lt, Int.not_le, ne_eq] at *)
    all_goals (try dsimp only [Ty.den, Ty.dflt, VerT, sIn, sInR] at *)
    all_goals (try simp only [eq4, ne4, eq3, ne3, eq2, ne2, Prod.eta, List.length_cons, List.length_nil, List.length_append, Nat.zero_add] at *)
    all_goals (try simp (disch := omega) only [wrap64] at *)
    all_goals try first | exact leafDraw (by kernel_rfl) | exact Leaf.mk trivial | (refine Leaf.mk ?_; omega) | (refine Leaf.mk ?_; unfold maxLen; omega)
    all_goals first
      | (refine Leaf.mk (ret1 (show 12 = check (key, xs) from ?_))
         rw [hC2, if_neg]
         intro hc
         have hx := bad_false.1 (ordered_iff.1 hc i (by omega) k (by omega))
         dsimp only [ver0] at hx
         first
         | (have := (hx.1 ‹_›).1; contradiction)
         | exact (hx.1 ‹_›).2 ‹_›
         | (have := hx.2 ‹_›; omega))
      | (refine Leaf.mk ⟨k + 1, rfl, ⟨by omega, fun j hj => ?_⟩, by omega⟩
         rcases Nat.lt_or_ge j k with hjk | hjk
         · exact hb j hjk
         · obtain rfl : j = k := by omega
           rw [bad_false]
           dsimp only [ver0]
           refine ⟨fun hh => ?_, fun hh => ?_⟩
           all_goals first
             | omega
             | contradiction
             | exact ⟨by omega, ‹_›⟩)
      | (refine Leaf.mk ⟨i + 1, rfl, ⟨by omega, fun j hj => ?_⟩, by omega⟩
         rcases Nat.lt_or_ge j i with hji | hji
         · exact ho j hji
         · obtain rfl : j = i := by omega
           exact fun m hm => hb m (by omega))
  · refine Leaf.mk (ret1 (show 0 = check (key, xs) from ?_))
    obtain rfl : i = xs.length := by omega
    rw [hC2, if_pos (ordered_iff.2 ho)]
def sSPutR : PSpec := sSPut
theorem fSPutR : FnOk Tryz.prog 166 := ⟨_, Tryz.func166, by decide, rfl⟩
theorem pSPutR : PSound Tryz.prog 166 sSPutR := by
  refine psound (T := tab) (S := (spOf [(87, sSCheckR.spec (lsOf [])), (209, sPutTextR.spec (lsOf [])), (154, sPutSmallR.spec (lsOf []))])) (keep := k166) (by kernel_rfl) tabOk (spCons (pOk pSCheckR fSCheckR (by decide) lsNil) (spCons (pOk pPutTextR fPutTextR (by decide) lsNil) (spCons (pOk pPutSmallR fPutSmallR (by decide) lsNil) spNil))) (by kernel_rfl) Tryz.func166 (by kernel_rfl) (by decide) fun xs hg hp => ?_
  obtain ⟨⟨key, xs⟩, ⟨⟩⟩ := xs
  change List UInt8 at key
  change List Ver at xs
  clear hp hg
  show vfun tab _ k166 Tryz.f166 [.agg [.s key, .sl VerT xs]] [] _
  refine Ev.out ?_
  repeat' (first | ((with_reducible refine Ev.mk ?_); conv => whnf) | (with_reducible refine And.intro ?_ ?_) | (intro h))
  all_goals (try simp only [decide_eq_true_eq, decide_eq_false_iff_not, beq_iff_eq, bne_iff_ne, beq_eq_false_iff_ne, bne_eq_false_iff_eq, Int.toNat_natCast, ge_iff_le, gt_iff_lt, Bool.not_eq_true', Bool.not_eq_false', Int.not_lt, Int.not_le, ne_eq] at *)
  all_goals (try dsimp only [Ty.den, Ty.dflt, VerT, sCheck, sSCheckR, sPutText, sPutSmall, sPutTextR, sPutSmallR] at *)
  all_goals (try simp only [eq4, ne4, eq3, ne3, eq2, ne2, Prod.eta, List.length_cons, List.length_nil, List.length_append, Nat.zero_add] at *)
  all_goals (try simp (disch := omega) only [wrap64] at *)
  all_goals try first | exact leafDraw (by kernel_rfl) | exact Leaf.mk trivial | (refine Leaf.mk ?_; omega) | (refine Leaf.mk ?_; unfold maxLen; omega)
  · exact Leaf.mk (retB (u := ([], check (key, xs))) (if_neg h).symm)
  all_goals
    have ok := check_ok.1 ‹check (key, xs) = 0›
    have hk := ok.key
    have hl := ok.len
    dsimp only at hk hl
    have h1 := putText_len key
    have h2 := putSmall_len xs.length
  · exact Leaf.mk (show key.length ≤ 100000 by omega)
  all_goals rw [wrapu (by omega)]
  · exact Leaf.mk (by omega)
  · exact Leaf.mk (by unfold maxLen; omega)
  have hS : putR11 (key, xs) = (putS (key, xs), 0) := if_pos ‹check (key, xs) = 0›
  have hva : ∀ i, i < xs.length → VerOk (xs.getD i ver0) := fun i hi => ok.all _ (getD_mem ver0 hi)
  refine LoopVC.on (fun i : Nat => [(6, .i .i64 i)]) (fun i => [(1, .arr 5 (.int .u8) (putText key ++ putSmall xs.length ++ (xs.take i).flatMap putV))]) (fun i => i ≤ xs.length) (fun i => xs.length - i) 0 (by simp only [List.take_zero, List.flatMap_nil, List.append_nil]; rfl) (by omega) ?_
  intro i hi
  have hfl := flat_len putV 69 (xs.take i) (fun v hv => putV_len (ok.all v (List.mem_of_mem_take hv)))
  have htl : (xs.take i).length * 69 ≤ 552 := by rw [List.length_take]; omega
  repeat' (first | ((with_reducible refine Ev.mk ?_); conv => whnf) | (with_reducible refine And.intro ?_ ?_) | (intro h))
  all_goals (try simp only [decide_eq_true_eq, decide_eq_false_iff_not, beq_iff_eq, bne_iff_ne, beq_eq_false_iff_ne, bne_eq_false_iff_eq, Int.toNat_natCast, ge_iff_le, gt_iff_lt, Bool.not_eq_true', Bool.not_eq_false', Int.not_lt, Int.not_le, ne_eq] at *)
  all_goals (try dsimp only [Ty.den, Ty.dflt, VerT, sPutText, sPutSmall, sPutTextR, sPutSmallR] at *)
  all_goals (try simp only [eq4, ne4, eq3, ne3, eq2, ne2, Prod.eta, List.length_cons, List.length_nil, List.length_append, Nat.zero_add] at *)
  all_goals (try simp (disch := omega) only [wrap64] at *)
  all_goals try first | exact leafDraw (by kernel_rfl) | exact Leaf.mk trivial | (refine Leaf.mk ?_; omega) | (refine Leaf.mk ?_; unfold maxLen; omega)
  · have hv := hva i (by omega)
    have hvl := putV_len hv
    simp only [putV, List.length_append, List.length_cons] at hvl
    rw [wrapu (n := (xs.getD i (0, 0, false, [])).1) hv.txn]
    dsimp only [ver0] at hvl
    exact Leaf.mk (by omega)
  · have hv := hva i (by omega)
    have hvl := putV_len hv
    simp only [putV, List.length_append, List.length_cons] at hvl
    rw [wrapu (n := (xs.getD i (0, 0, false, [])).1) hv.txn]
    dsimp only [ver0] at hvl
    exact Leaf.mk (by unfold maxLen; omega)
  all_goals try
    have hv := hva i (by omega)
    have hvl := putV_len hv
    simp only [putV, List.length_append, List.length_cons] at hvl
    rw [wrapu (n := (xs.getD i (0, 0, false, [])).1) hv.txn, wrapu (n := (xs.getD i (0, 0, false, [])).2.1) hv.ts]
    dsimp only [ver0] at hvl
  all_goals try first
    | (refine Leaf.mk ?_; omega)
    | (refine Leaf.mk ?_; unfold maxLen; omega)
    | exact Leaf.mk (show (xs.getD i ver0).2.2.2.length ≤ 100000 by have := (hva i (by omega)).val; omega)
  all_goals try
    refine Leaf.mk ⟨i + 1, ?_, by omega, by omega⟩
    rw [flatMap_at ver0 (by omega)]
    have hv : putV (xs.getD i ver0) = putSmall (xs.getD i (0, 0, false, [])).1 ++ (putSmall (xs.getD i (0, 0, false, [])).2.1 ++ ((if (xs.getD i (0, 0, false, [])).2.2.1 = true then 1 else 0) :: putText (xs.getD i (0, 0, false, [])).2.2.2)) := rfl
    first
    | (rw [if_pos (by assumption)] at hv; rw [hv]; simp only [List.append_assoc, List.cons_append, List.nil_append]; rfl)
    | (rw [if_neg (by rw [Bool.not_eq_true]; assumption)] at hv; rw [hv]; simp only [List.append_assoc, List.cons_append, List.nil_append]; rfl)
  · rw [List.take_of_length_le (by omega)]
    refine Leaf.mk (retB (u := (putText key ++ putSmall xs.length ++ xs.flatMap putV, 0)) ?_)
    show _ = putR11 (key, xs)
    rw [hS, putS, List.append_assoc]
end Go.Proofs.YtkmfjlfejdoehaaGreat
