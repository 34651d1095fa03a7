import Derived.Test.YtoedpnniaikfbaaC2



set_option linter.unusedVariables false
set_option linter.unusedSimpArgs false
namespace Go.Proofs.Ytoedpnniaikfbaa
open Go.Eng
def firstBad : List Ver → Int
  | [] => 0
  | v :: r => if verC v = 0 then firstBad r else verC v
def check (s : Stk) : Int := if 16 < s.1.length then 5 else if 8 < s.2.length then 7 else if firstBad s.2 = 0 then (if ordered s.2 = true then 0 else 12) else firstBad s.2
def sCheck : PSpec := ⟨[.d StT], [⟨false, [.d (.int .i64)]⟩], fun _ => True, fun x => ((check x.1, ()), ())⟩
theorem firstBad_at {xs : List Ver} {i : Nat} (h : i < xs.length) : firstBad (xs.drop i) = if verC (xs.getD i ver0) = 0 then firstBad (xs.drop (i + 1)) else verC (xs.getD i ver0) := by
  rw [drop_at ver0 h, firstBad]
theorem fCheck : FnOk Try.prog 36 := ⟨_, Try.func36, by decide, rfl⟩
theorem pCheck : PSound Try.prog 36 sCheck := by
  refine psound (T := tab) (S := (spOf [(90, sVersion.spec (lsOf [])), (91, sOrdered.spec (lsOf []))])) (keep := k36) (by kernel_rfl) tabOk (spCons (pOk pVersion fVersion (by decide) lsNil) (spCons (pOk pOrdered fOrdered (by decide) lsNil) spNil)) (by kernel_rfl) Try.func36 (by kernel_rfl) (by decide) fun xs hg hp => ?_
  obtain ⟨⟨key, xs⟩, ⟨⟩⟩ := xs
  obtain ⟨⟨hk, hl, hx⟩, -⟩ := hg
  change List UInt8 at key
  change List Ver at xs
  change xs.length ≤ _ at hl
  have hl := len63 hl
  clear hp
  show vfun tab _ k36 Try.f36 [.agg [.s key, .sl VerT xs]] [] _
  refine Ev.out ?_
  repeat' (first | ((with_reducible refine Ev.mk ?_); conv => whnf) | (with_reducible refine And.intro ?_ ?_) | (intro h))
  all_goals (try simp only [decide_eq_true_eq, decide_eq_false_iff_not, beq_iff_eq, bne_iff_ne, beq_eq_false_iff_ne, bne_eq_false_iff_eq, Int.toNat_natCast, ge_iff_le, gt_iff_lt, Bool.not_eq_true', Bool.not_eq_false', Int.not_lt, Int.not_le, ne_eq] at *)
  all_goals (try dsimp only [Ty.den, Ty.dflt, VerT, sVersion, sOrdered] at *)
  all_goals (try simp only [eq4, ne4, eq3, ne3, eq2, ne2, Prod.eta, List.length_cons, List.length_nil, List.length_append, Nat.zero_add] at *)
  all_goals (try simp (disch := omega) only [wrap64] at *)
  all_goals try first | exact leafDraw (by kernel_rfl) | exact Leaf.mk trivial | (refine Leaf.mk ?_; omega) | (refine Leaf.mk ?_; unfold maxLen; omega)
  · refine Leaf.mk (ret1 (show (5 : Int) = check (key, xs) from ?_))
    rw [check, if_pos (show 16 < key.length by omega)]
  · refine Leaf.mk (ret1 (show (7 : Int) = check (key, xs) from ?_))
    rw [check, if_neg (show ¬ 16 < key.length by omega), if_pos (show 8 < xs.length by omega)]
  have hC : check (key, xs) = if firstBad xs = 0 then (if ordered xs = true then 0 else 12) else firstBad xs := by
    rw [check, if_neg (show ¬ 16 < key.length by omega), if_neg (show ¬ 8 < xs.length by omega)]
  refine LoopVC.on (fun i : Nat => [(19, .i .i64 i)]) (fun _ => []) (fun i => i ≤ xs.length ∧ firstBad xs = firstBad (xs.drop i)) (fun i => xs.length - i) 0 rfl ⟨by omega, rfl⟩ ?_
  intro i ⟨hi, he⟩
  repeat' (first | ((with_reducible refine Ev.mk ?_); conv => whnf) | (with_reducible refine And.intro ?_ ?_) | (intro h))
  all_goals (try simp only [decide_eq_true_eq, decide_eq_false_iff_not, beq_iff_eq, bne_iff_ne, beq_eq_false_iff_ne, bne_eq_false_iff_eq, Int.toNat_natCast, ge_iff_le, gt_iff_lt, Bool.not_eq_true', Bool.not_eq_false', Int.not_lt, Int.not_le, ne_eq] at *)
  all_goals (try dsimp only [Ty.den, Ty.dflt, VerT, sVersion, sOrdered] at *)
  all_goals (try simp only [eq4, ne4, eq3, ne3, eq2, ne2, Prod.eta, List.length_cons, List.length_nil, List.length_append, Nat.zero_add] at *)
  all_goals (try simp (disch := omega) only [wrap64] at *)
  all_goals try first | exact leafDraw (by kernel_rfl) | exact Leaf.mk trivial | (refine Leaf.mk ?_; omega) | (refine Leaf.mk ?_; unfold maxLen; omega)
  · rw [firstBad_at (by omega), if_neg (show ¬ verC (xs.getD i ver0) = 0 from h)] at he
    refine Leaf.mk (ret1 (show verC (xs.getD i ver0) = check (key, xs) from ?_))
    rw [hC, he, if_neg (show ¬ verC (xs.getD i ver0) = 0 from h)]
  · rw [firstBad_at (by omega), if_pos (show verC (xs.getD i ver0) = 0 from h)] at he
    exact Leaf.mk ⟨i + 1, rfl, ⟨by omega, he⟩, by omega⟩
  · rw [drop_end (by omega)] at he
    refine Leaf.mk (ret1 (show (12 : Int) = check (key, xs) from ?_))
    rw [hC, if_pos (show firstBad xs = 0 from he), if_neg (by rw [h]; simp)]
  · rw [drop_end (by omega)] at he
    refine Leaf.mk (ret1 (show (0 : Int) = check (key, xs) from ?_))
    rw [hC, if_pos (show firstBad xs = 0 from he), if_pos h]
def sCloneV : PSpec := ⟨[.d (.slice VerT)], [⟨false, [.o 93 VerT]⟩], fun x => x.1.length ≤ 1000000, fun x => ((x.1, ()), ())⟩
theorem fCloneV : FnOk Try.prog 58 := ⟨_, Try.func58, by decide, rfl⟩
theorem pCloneV : PSound Try.prog 58 sCloneV := by
  refine psound (T := tab) (S := (spOf [])) (keep := k58) (by kernel_rfl) tabOk spNil (by kernel_rfl) Try.func58 (by kernel_rfl) (by decide) fun xs hg hp => ?_
  obtain ⟨xs, ⟨⟩⟩ := xs
  obtain ⟨⟨hl, -⟩, -⟩ := hg
  change List Ver at xs
  clear hl
  change xs.length ≤ 1000000 at hp
  show vfun tab _ k58 Try.f58 [.sl VerT xs] [] _
  refine Ev.out ?_
  repeat' (first | ((with_reducible refine Ev.mk ?_); conv => whnf) | (with_reducible refine And.intro ?_ ?_) | (intro h))
  all_goals (try simp only [decide_eq_true_eq, decide_eq_false_iff_not, beq_iff_eq, bne_iff_ne, beq_eq_false_iff_ne, bne_eq_false_iff_eq, Int.toNat_natCast, ge_iff_le, gt_iff_lt, Bool.not_eq_true', Bool.not_eq_false', Int.not_lt, Int.not_le, ne_eq] at *)
  all_goals (try dsimp only [Ty.den, Ty.dflt, VerT] at *)
  all_goals (try simp only [eq4, ne4, eq3, ne3, eq2, ne2, Prod.eta, List.length_cons, List.length_nil, List.length_append, Nat.zero_add] at *)
  all_goals (try simp (disch := omega) only [wrap64] at *)
  all_goals try first | exact leafDraw (by kernel_rfl) | exact Leaf.mk trivial | (refine Leaf.mk ?_; omega) | (refine Leaf.mk ?_; unfold maxLen; omega)
  all_goals first
    | (refine Leaf.mk (ret1 (show ([] : List Ver) = xs from ?_)); exact (List.eq_nil_of_length_eq_zero (by omega)).symm)
    | exact Leaf.mk (ret1 rfl)
    | skip
def sOwn : PSpec := ⟨[.d StT], [⟨true, [.d .str, .o 93 VerT]⟩], fun x => List.length x.1.2 ≤ 1000000, fun x => ((x.1.1, (x.1.2, ())), ())⟩
theorem fOwn : FnOk Try.prog 113 := ⟨_, Try.func113, by decide, rfl⟩
theorem pOwn : PSound Try.prog 113 sOwn := by
  refine psound (T := tab) (S := (spOf [(58, sCloneV.spec (lsOf []))])) (keep := k113) (by kernel_rfl) tabOk (spCons (pOk pCloneV fCloneV (by decide) lsNil) spNil) (by kernel_rfl) Try.func113 (by kernel_rfl) (by decide) fun xs hg hp => ?_
  obtain ⟨⟨key, xs⟩, ⟨⟩⟩ := xs
  change List UInt8 at key
  change List Ver at xs
  change xs.length ≤ 1000000 at hp
  show vfun tab _ k113 Try.f113 [.agg [.s key, .sl VerT xs]] [] _
  refine Ev.out ?_
  repeat' (first | ((with_reducible refine Ev.mk ?_); conv => whnf) | (with_reducible refine And.intro ?_ ?_) | (intro h))
  all_goals (try simp only [decide_eq_true_eq, decide_eq_false_iff_not, beq_iff_eq, bne_iff_ne, beq_eq_false_iff_ne, bne_eq_false_iff_eq, Int.toNat_natCast, ge_iff_le, gt_iff_lt, Bool.not_eq_true', Bool.not_eq_false', Int.not_lt, Int.not_le, ne_eq] at *)
  all_goals (try dsimp only [Ty.den, Ty.dflt, VerT, sCloneV] at *)
  all_goals (try simp only [eq4, ne4, eq3, ne3, eq2, ne2, Prod.eta, List.length_cons, List.length_nil, List.length_append, Nat.zero_add] at *)
  all_goals (try simp (disch := omega) only [wrap64] at *)
  all_goals try first | exact leafDraw (by kernel_rfl) | exact Leaf.mk trivial | (refine Leaf.mk ?_; omega) | (refine Leaf.mk ?_; unfold maxLen; omega)
  exact Leaf.mk rfl
def lPlace1 : LSpec := ⟨VerT, .bool, [.bx (.int .i64)], fun v c => roomP c.1 v⟩
theorem fPlace1 : FnOk Try.prog 152 := ⟨_, Try.func152, by decide, rfl⟩
theorem pPlace1 : PSound Try.prog 152 lPlace1.p := by
  refine psound (T := tab) (S := (spOf [])) (keep := k152) (by kernel_rfl) tabOk spNil (by kernel_rfl) Try.func152 (by kernel_rfl) (by decide) fun xs hg hp => ?_
  obtain ⟨⟨txn, ts, gone, val⟩, me, ⟨⟩⟩ := xs
  show vfun tab _ k152 Try.f152 [.agg [.i .i64 txn, .i .i64 ts, .b gone, .s val], .rp [.i .i64 me]] [] _
  refine Ev.out ?_
  repeat' (first | ((with_reducible refine Ev.mk ?_); conv => whnf) | (with_reducible refine And.intro ?_ ?_) | (intro h))
  · exact Leaf.mk (ret1 (show (txn == me) = ((ts == 0) && (txn == me)) by rw [h]; rfl))
  · exact Leaf.mk (ret1 (show false = ((ts == 0) && (txn == me)) by rw [h]; rfl))
def sPlace : PSpec := ⟨[.d StT, .d (.int .i64)], [⟨false, [.d (.int .i64)]⟩], fun _ => True, fun x => ((idxF (roomP x.2.1) x.1.2 0, ()), ())⟩
theorem fPlace : FnOk Try.prog 114 := ⟨_, Try.func114, by decide, rfl⟩
theorem pPlace : PSound Try.prog 114 sPlace := by
  refine psound (T := tab) (S := (spOf [(136, sIndexFunc.spec (lsOf [(152, lPlace1)]))])) (keep := k114) (by kernel_rfl) tabOk (spCons (pOk pIndexFunc fIndexFunc (by decide) ((lsCons ⟨pPlace1, fPlace1⟩ lsNil))) spNil) (by kernel_rfl) Try.func114 (by kernel_rfl) (by decide) fun xs hg hp => ?_
  obtain ⟨⟨key, xs⟩, me, ⟨⟩⟩ := xs
  show vfun tab _ k114 Try.f114 [.agg [.s key, .sl VerT xs], .i .i64 me] [] _
  refine Ev.out ?_
  repeat' (first | ((with_reducible refine Ev.mk ?_); conv => whnf) | (with_reducible refine And.intro ?_ ?_) | (intro h))
  · exact Leaf.mk trivial
  · exact Leaf.mk rfl
theorem retS {k : List UInt8} {xs : List Ver} {s : Stk} (h : (k, xs) = s) : (some ((k, (xs, ())), ()) : Option ((List UInt8 × List Ver × Unit) × Unit)) = some ((s.1, (s.2, ())), ()) := by rw [← h]
/-- The stack behind a Write. -/
def write (s : Stk) (v : Ver) : Stk :=
  if 0 ≤ idxF (roomP v.1) s.2 0 then (s.1, s.2.set (idxF (roomP v.1) s.2 0).toNat (v.1, 0, v.2.2)) else if s.2.length < 8 then (s.1, s.2 ++ [(v.1, 0, v.2.2)]) else s
def sWrite : PSpec := ⟨[.d StT, .d VerT], [⟨true, [.d .str, .o 93 VerT]⟩], fun x => List.length x.1.2 ≤ 100000, fun x => (((write x.1 x.2.1).1, ((write x.1 x.2.1).2, ())), ())⟩
theorem fWrite : FnOk Try.prog 62 := ⟨_, Try.func62, by decide, rfl⟩
theorem pWrite : PSound Try.prog 62 sWrite := by
  refine psound (T := tab) (S := (spOf [(113, sOwn.spec (lsOf [])), (114, sPlace.spec (lsOf []))])) (keep := k62) (by kernel_rfl) tabOk (spCons (pOk pOwn fOwn (by decide) lsNil) (spCons (pOk pPlace fPlace (by decide) lsNil) spNil)) (by kernel_rfl) Try.func62 (by kernel_rfl) (by decide) fun xs hg hp => ?_
  obtain ⟨⟨key, xs⟩, ⟨txn, ts, gone, val⟩, ⟨⟩⟩ := xs
  change List UInt8 at key
  change List Ver at xs
  change xs.length ≤ 100000 at hp
  have hz := idxF_pos (roomP txn) xs 0
  show vfun tab _ k62 Try.f62 [.agg [.s key, .sl VerT xs], .agg [.i .i64 txn, .i .i64 ts, .b gone, .s val]] [] _
  refine Ev.out ?_
  repeat' (first | ((with_reducible refine Ev.mk ?_); conv => whnf) | (with_reducible refine And.intro ?_ ?_) | (intro h))
  all_goals (try simp only [decide_eq_true_eq, decide_eq_false_iff_not, beq_iff_eq, bne_iff_ne, beq_eq_false_iff_ne, bne_eq_false_iff_eq, Int.toNat_natCast, ge_iff_le, gt_iff_lt, Bool.not_eq_true', Bool.not_eq_false', Int.not_lt, Int.not_le, ne_eq] at *)
  all_goals (try dsimp only [Ty.den, Ty.dflt, VerT, sOwn, sPlace] at *)
  all_goals (try simp only [eq4, ne4, eq3, ne3, eq2, ne2, Prod.eta, List.length_cons, List.length_nil, List.length_append, Nat.zero_add] at *)
  all_goals (try simp (disch := omega) only [wrap64] at *)
  all_goals try first | exact leafDraw (by kernel_rfl) | exact Leaf.mk trivial | (refine Leaf.mk ?_; omega) | (refine Leaf.mk ?_; unfold maxLen; omega)
  · refine Leaf.mk (retS (s := write (key, xs) (txn, ts, gone, val)) ?_)
    exact (if_pos h).symm
  · refine Leaf.mk (retS (s := write (key, xs) (txn, ts, gone, val)) ?_)
    exact ((if_neg (Int.not_le.2 ‹idxF (roomP txn) xs 0 < 0›)).trans (if_pos (show xs.length < 8 by omega))).symm
  · refine Leaf.mk (retS (s := write (key, xs) (txn, ts, gone, val)) ?_)
    exact ((if_neg (Int.not_le.2 ‹idxF (roomP txn) xs 0 < 0›)).trans (if_neg (show ¬ xs.length < 8 by omega))).symm
def sPending : PSpec := ⟨[.d StT, .d (.int .i64)], [⟨true, [.d VerT]⟩, ⟨false, [.d .bool]⟩], fun _ => True, fun x => (((if idxF (roomP x.2.1) x.1.2 0 < 0 then ver0 else x.1.2.getD (idxF (roomP x.2.1) x.1.2 0).toNat ver0), ()), ((decide (0 ≤ idxF (roomP x.2.1) x.1.2 0), ()), ()))⟩
end Go.Proofs.Ytoedpnniaikfbaa
