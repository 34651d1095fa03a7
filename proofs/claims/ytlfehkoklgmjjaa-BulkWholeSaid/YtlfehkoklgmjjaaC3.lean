import Derived.Test.YtlfehkoklgmjjaaC2


set_option linter.unusedVariables false
set_option linter.unusedSimpArgs false
namespace Go.Proofs.Ytlfehkoklgmjjaa
open Go.Eng
def firstBad : List Ver → Int
  | [] => 0
  | v :: r => if verC v = 0 then firstBad r else verC v
def check (s : Stk) : Int := if 16 < s.1.length then 5 else if 8 < s.2.length then 7 else if firstBad s.2 = 0 then (if ordered s.2 = true then 0 else 12) else firstBad s.2
def sCheck : PSpec := ⟨[.d StT], [⟨false, [.d (.int .i64)]⟩], fun _ => True, fun x => ((check x.1, ()), ())⟩
theorem firstBad_at {xs : List Ver} {i : Nat} (h : i < xs.length) : firstBad (xs.drop i) = if verC (xs.getD i ver0) = 0 then firstBad (xs.drop (i + 1)) else verC (xs.getD i ver0) := by
  rw [drop_at ver0 h, firstBad]
theorem fCheck : FnOk Try.prog 53 := ⟨_, Try.func53, by decide, rfl⟩
theorem pCheck : PSound Try.prog 53 sCheck := by
  refine psound (T := tab) (S := (spOf [(125, sVersion.spec (lsOf [])), (126, sOrdered.spec (lsOf []))])) (keep := k53) (by kernel_rfl) tabOk (spCons (pOk pVersion fVersion (by decide) lsNil) (spCons (pOk pOrdered fOrdered (by decide) lsNil) spNil)) (by kernel_rfl) Try.func53 (by kernel_rfl) (by decide) fun xs hg hp => ?_
  obtain ⟨⟨key, xs⟩, ⟨⟩⟩ := xs
  obtain ⟨⟨hk, hl, hx⟩, -⟩ := hg
  change List UInt8 at key
  change List Ver at xs
  change xs.length ≤ _ at hl
  have hl := len63 hl
  clear hp
  show vfun tab _ k53 Try.f53 [.agg [.s key, .sl VerT xs]] [] _
  refine Ev.out ?_
  repeat' (first | ((with_reducible refine Ev.mk ?_); conv => whnf) | (with_reducible refine And.intro ?_ ?_) | (intro h))
  all_goals (try simp only [decide_eq_true_eq, decide_eq_false_iff_not, beq_iff_eq, bne_iff_ne, beq_eq_false_iff_ne, bne_eq_false_iff_eq, Int.toNat_natCast, ge_iff_le, gt_iff_lt, Bool.not_eq_true', Bool.not_eq_false', Int.not_lt, Int.not_le, ne_eq] at *)
  all_goals (try dsimp only [Ty.den, Ty.dflt, VerT, sVersion, sOrdered] at *)
  all_goals (try simp only [eq4, ne4, eq3, ne3, eq2, ne2, Prod.eta, List.length_cons, List.length_nil, List.length_append, Nat.zero_add] at *)
  all_goals (try simp (disch := omega) only [wrap64] at *)
  all_goals try first | exact leafDraw (by kernel_rfl) | exact Leaf.mk trivial | (refine Leaf.mk ?_; omega) | (refine Leaf.mk ?_; unfold maxLen; omega)
  · refine Leaf.mk (ret1 (show (5 : Int) = check (key, xs) from ?_))
    rw [check, if_pos (show 16 < key.length by omega)]
  · refine Leaf.mk (ret1 (show (7 : Int) = check (key, xs) from ?_))
    rw [check, if_neg (show ¬ 16 < key.length by omega), if_pos (show 8 < xs.length by omega)]
  have hC : check (key, xs) = if firstBad xs = 0 then (if ordered xs = true then 0 else 12) else firstBad xs := by
    rw [check, if_neg (show ¬ 16 < key.length by omega), if_neg (show ¬ 8 < xs.length by omega)]
  refine LoopVC.on (fun i : Nat => [(19, .i .i64 i)]) (fun _ => []) (fun i => i ≤ xs.length ∧ firstBad xs = firstBad (xs.drop i)) (fun i => xs.length - i) 0 rfl ⟨by omega, rfl⟩ ?_
  intro i ⟨hi, he⟩
  repeat' (first | ((with_reducible refine Ev.mk ?_); conv => whnf) | (with_reducible refine And.intro ?_ ?_) | (intro h))
  all_goals (try simp only [decide_eq_true_eq, decide_eq_false_iff_not, beq_iff_eq, bne_iff_ne, beq_eq_false_iff_ne, bne_eq_false_iff_eq, Int.toNat_natCast, ge_iff_le, gt_iff_lt, Bool.not_eq_true', Bool.not_eq_false', Int.not_lt, Int.not_le, ne_eq] at *)
  all_goals (try dsimp only [Ty.den, Ty.dflt, VerT, sVersion, sOrdered] at *)
  all_goals (try simp only [eq4, ne4, eq3, ne3, eq2, ne2, Prod.eta, List.length_cons, List.length_nil, List.length_append, Nat.zero_add] at *)
  all_goals (try simp (disch := omega) only [wrap64] at *)
  all_goals try first | exact leafDraw (by kernel_rfl) | exact Leaf.mk trivial | (refine Leaf.mk ?_; omega) | (refine Leaf.mk ?_; unfold maxLen; omega)
  · rw [firstBad_at (by omega), if_neg (show ¬ verC (xs.getD i ver0) = 0 from h)] at he
    refine Leaf.mk (ret1 (show verC (xs.getD i ver0) = check (key, xs) from ?_))
    rw [hC, he, if_neg (show ¬ verC (xs.getD i ver0) = 0 from h)]
  · rw [firstBad_at (by omega), if_pos (show verC (xs.getD i ver0) = 0 from h)] at he
    exact Leaf.mk ⟨i + 1, rfl, ⟨by omega, he⟩, by omega⟩
  · rw [drop_end (by omega)] at he
    refine Leaf.mk (ret1 (show (12 : Int) = check (key, xs) from ?_))
    rw [hC, if_pos (show firstBad xs = 0 from he), if_neg (by rw [h]; simp)]
  · rw [drop_end (by omega)] at he
    refine Leaf.mk (ret1 (show (0 : Int) = check (key, xs) from ?_))
    rw [hC, if_pos (show firstBad xs = 0 from he), if_pos h]
def sCloneV : PSpec := ⟨[.d (.slice VerT)], [⟨false, [.o 90 VerT]⟩], fun x => x.1.length ≤ 1000000, fun x => ((x.1, ()), ())⟩
theorem fCloneV : FnOk Try.prog 168 := ⟨_, Try.func168, by decide, rfl⟩
theorem pCloneV : PSound Try.prog 168 sCloneV := by
  refine psound (T := tab) (S := (spOf [])) (keep := k168) (by kernel_rfl) tabOk spNil (by kernel_rfl) Try.func168 (by kernel_rfl) (by decide) fun xs hg hp => ?_
  obtain ⟨xs, ⟨⟩⟩ := xs
  obtain ⟨⟨hl, -⟩, -⟩ := hg
  change List Ver at xs
  clear hl
  change xs.length ≤ 1000000 at hp
  show vfun tab _ k168 Try.f168 [.sl VerT xs] [] _
  refine Ev.out ?_
  repeat' (first | ((with_reducible refine Ev.mk ?_); conv => whnf) | (with_reducible refine And.intro ?_ ?_) | (intro h))
  all_goals (try simp only [decide_eq_true_eq, decide_eq_false_iff_not, beq_iff_eq, bne_iff_ne, beq_eq_false_iff_ne, bne_eq_false_iff_eq, Int.toNat_natCast, ge_iff_le, gt_iff_lt, Bool.not_eq_true', Bool.not_eq_false', Int.not_lt, Int.not_le, ne_eq] at *)
  all_goals (try dsimp only [Ty.den, Ty.dflt, VerT] at *)
  all_goals (try simp only [eq4, ne4, eq3, ne3, eq2, ne2, Prod.eta, List.length_cons, List.length_nil, List.length_append, Nat.zero_add] at *)
  all_goals (try simp (disch := omega) only [wrap64] at *)
  all_goals try first | exact leafDraw (by kernel_rfl) | exact Leaf.mk trivial | (refine Leaf.mk ?_; omega) | (refine Leaf.mk ?_; unfold maxLen; omega)
  all_goals first
    | (refine Leaf.mk (ret1 (show ([] : List Ver) = xs from ?_)); exact (List.eq_nil_of_length_eq_zero (by omega)).symm)
    | exact Leaf.mk (ret1 rfl)
    | skip
def sOwn : PSpec := ⟨[.d StT], [⟨true, [.d .str, .o 90 VerT]⟩], fun x => List.length x.1.2 ≤ 1000000, fun x => ((x.1.1, (x.1.2, ())), ())⟩
theorem fOwn : FnOk Try.prog 128 := ⟨_, Try.func128, by decide, rfl⟩
theorem pOwn : PSound Try.prog 128 sOwn := by
  refine psound (T := tab) (S := (spOf [(168, sCloneV.spec (lsOf []))])) (keep := k128) (by kernel_rfl) tabOk (spCons (pOk pCloneV fCloneV (by decide) lsNil) spNil) (by kernel_rfl) Try.func128 (by kernel_rfl) (by decide) fun xs hg hp => ?_
  obtain ⟨⟨key, xs⟩, ⟨⟩⟩ := xs
  change List UInt8 at key
  change List Ver at xs
  change xs.length ≤ 1000000 at hp
  show vfun tab _ k128 Try.f128 [.agg [.s key, .sl VerT xs]] [] _
  refine Ev.out ?_
  repeat' (first | ((with_reducible refine Ev.mk ?_); conv => whnf) | (with_reducible refine And.intro ?_ ?_) | (intro h))
  all_goals (try simp only [decide_eq_true_eq, decide_eq_false_iff_not, beq_iff_eq, bne_iff_ne, beq_eq_false_iff_ne, bne_eq_false_iff_eq, Int.toNat_natCast, ge_iff_le, gt_iff_lt, Bool.not_eq_true', Bool.not_eq_false', Int.not_lt, Int.not_le, ne_eq] at *)
  all_goals (try dsimp only [Ty.den, Ty.dflt, VerT, sCloneV] at *)
  all_goals (try simp only [eq4, ne4, eq3, ne3, eq2, ne2, Prod.eta, List.length_cons, List.length_nil, List.length_append, Nat.zero_add] at *)
  all_goals (try simp (disch := omega) only [wrap64] at *)
  all_goals try first | exact leafDraw (by kernel_rfl) | exact Leaf.mk trivial | (refine Leaf.mk ?_; omega) | (refine Leaf.mk ?_; unfold maxLen; omega)
  exact Leaf.mk rfl
def lPlace1 : LSpec := ⟨VerT, .bool, [.bx (.int .i64)], fun v c => roomP c.1 v⟩
theorem fPlace1 : FnOk Try.prog 167 := ⟨_, Try.func167, by decide, rfl⟩
theorem pPlace1 : PSound Try.prog 167 lPlace1.p := by
  refine psound (T := tab) (S := (spOf [])) (keep := k167) (by kernel_rfl) tabOk spNil (by kernel_rfl) Try.func167 (by kernel_rfl) (by decide) fun xs hg hp => ?_
  obtain ⟨⟨txn, ts, gone, val⟩, me, ⟨⟩⟩ := xs
  show vfun tab _ k167 Try.f167 [.agg [.i .i64 txn, .i .i64 ts, .b gone, .s val], .rp [.i .i64 me]] [] _
  refine Ev.out ?_
  repeat' (first | ((with_reducible refine Ev.mk ?_); conv => whnf) | (with_reducible refine And.intro ?_ ?_) | (intro h))
  · exact Leaf.mk (ret1 (show (txn == me) = ((ts == 0) && (txn == me)) by rw [h]; rfl))
  · exact Leaf.mk (ret1 (show false = ((ts == 0) && (txn == me)) by rw [h]; rfl))
def sPlace : PSpec := ⟨[.d StT, .d (.int .i64)], [⟨false, [.d (.int .i64)]⟩], fun _ => True, fun x => ((idxF (roomP x.2.1) x.1.2 0, ()), ())⟩
theorem fPlace : FnOk Try.prog 127 := ⟨_, Try.func127, by decide, rfl⟩
theorem pPlace : PSound Try.prog 127 sPlace := by
  refine psound (T := tab) (S := (spOf [(165, sIndexFunc.spec (lsOf [(167, lPlace1)]))])) (keep := k127) (by kernel_rfl) tabOk (spCons (pOk pIndexFunc fIndexFunc (by decide) ((lsCons ⟨pPlace1, fPlace1⟩ lsNil))) spNil) (by kernel_rfl) Try.func127 (by kernel_rfl) (by decide) fun xs hg hp => ?_
  obtain ⟨⟨key, xs⟩, me, ⟨⟩⟩ := xs
  show vfun tab _ k127 Try.f127 [.agg [.s key, .sl VerT xs], .i .i64 me] [] _
  refine Ev.out ?_
  repeat' (first | ((with_reducible refine Ev.mk ?_); conv => whnf) | (with_reducible refine And.intro ?_ ?_) | (intro h))
  · exact Leaf.mk trivial
  · exact Leaf.mk rfl
theorem retS {k : List UInt8} {xs : List Ver} {s : Stk} (h : (k, xs) = s) : (some ((k, (xs, ())), ()) : Option ((List UInt8 × List Ver × Unit) × Unit)) = some ((s.1, (s.2, ())), ()) := by rw [← h]
/-- The stack behind a Write. -/
def write (s : Stk) (v : Ver) : Stk :=
  if 0 ≤ idxF (roomP v.1) s.2 0 then (s.1, s.2.set (idxF (roomP v.1) s.2 0).toNat (v.1, 0, v.2.2)) else if s.2.length < 8 then (s.1, s.2 ++ [(v.1, 0, v.2.2)]) else s
def sWrite : PSpec := ⟨[.d StT, .d VerT], [⟨true, [.d .str, .o 90 VerT]⟩], fun x => List.length x.1.2 ≤ 100000, fun x => (((write x.1 x.2.1).1, ((write x.1 x.2.1).2, ())), ())⟩
theorem fWrite : FnOk Try.prog 57 := ⟨_, Try.func57, by decide, rfl⟩
theorem pWrite : PSound Try.prog 57 sWrite := by
  refine psound (T := tab) (S := (spOf [(128, sOwn.spec (lsOf [])), (127, sPlace.spec (lsOf []))])) (keep := k57) (by kernel_rfl) tabOk (spCons (pOk pOwn fOwn (by decide) lsNil) (spCons (pOk pPlace fPlace (by decide) lsNil) spNil)) (by kernel_rfl) Try.func57 (by kernel_rfl) (by decide) fun xs hg hp => ?_
  obtain ⟨⟨key, xs⟩, ⟨txn, ts, gone, val⟩, ⟨⟩⟩ := xs
  change List UInt8 at key
  change List Ver at xs
  change xs.length ≤ 100000 at hp
  have hz := idxF_pos (roomP txn) xs 0
  show vfun tab _ k57 Try.f57 [.agg [.s key, .sl VerT xs], .agg [.i .i64 txn, .i .i64 ts, .b gone, .s val]] [] _
  refine Ev.out ?_
  repeat' (first | ((with_reducible refine Ev.mk ?_); conv => whnf) | (with_reducible refine And.intro ?_ ?_) | (intro h))
  all_goals (try simp only [decide_eq_true_eq, decide_eq_false_iff_not, beq_iff_eq, bne_iff_ne, beq_eq_false_iff_ne, bne_eq_false_iff_eq, Int.toNat_natCast, ge_iff_le, gt_iff_lt, Bool.not_eq_true', Bool.not_eq_false', Int.not_lt, Int.not_le, ne_eq] at *)
  all_goals (try dsimp only [Ty.den, Ty.dflt, VerT, sOwn, sPlace] at *)
  all_goals (try simp only [eq4, ne4, eq3, ne3, eq2, ne2, Prod.eta, List.length_cons, List.length_nil, List.length_append, Nat.zero_add] at *)
  all_goals (try simp (disch := omega) only [wrap64] at *)
  all_goals try first | exact leafDraw (by kernel_rfl) | exact Leaf.mk trivial | (refine Leaf.mk ?_; omega) | (refine Leaf.mk ?_; unfold maxLen; omega)
  · refine Leaf.mk (retS (s := write (key, xs) (txn, ts, gone, val)) ?_)
    exact (if_pos h).symm
  · refine Leaf.mk (retS (s := write (key, xs) (txn, ts, gone, val)) ?_)
    exact ((if_neg (Int.not_le.2 ‹idxF (roomP txn) xs 0 < 0›)).trans (if_pos (show xs.length < 8 by omega))).symm
  · refine Leaf.mk (retS (s := write (key, xs) (txn, ts, gone, val)) ?_)
    exact ((if_neg (Int.not_le.2 ‹idxF (roomP txn) xs 0 < 0›)).trans (if_neg (show ¬ xs.length < 8 by omega))).symm
def sPending : PSpec := ⟨[.d StT, .d (.int .i64)], [⟨true, [.d VerT]⟩, ⟨false, [.d .bool]⟩], fun _ => True, fun x => (((if idxF (roomP x.2.1) x.1.2 0 < 0 then ver0 else x.1.2.getD (idxF (roomP x.2.1) x.1.2 0).toNat ver0), ()), ((decide (0 ≤ idxF (roomP x.2.1) x.1.2 0), ()), ()))⟩
theorem fPending : FnOk Try.prog 56 := ⟨_, Try.func56, by decide, rfl⟩
theorem pPending : PSound Try.prog 56 sPending := by
  refine psound (T := tab) (S := (spOf [(127, sPlace.spec (lsOf []))])) (keep := k56) (by kernel_rfl) tabOk (spCons (pOk pPlace fPlace (by decide) lsNil) spNil) (by kernel_rfl) Try.func56 (by kernel_rfl) (by decide) fun xs hg hp => ?_
  obtain ⟨⟨key, xs⟩, me, ⟨⟩⟩ := xs
  obtain ⟨⟨hk, hl, hx⟩, -⟩ := hg
  change List UInt8 at key
  change List Ver at xs
  change xs.length ≤ _ at hl
  have hl := len63 hl
  clear hp
  have hz := idxF_pos (roomP me) xs 0
  show vfun tab _ k56 Try.f56 [.agg [.s key, .sl VerT xs], .i .i64 me] [] _
  refine Ev.out ?_
  repeat' (first | ((with_reducible refine Ev.mk ?_); conv => whnf) | (with_reducible refine And.intro ?_ ?_) | (intro h))
  all_goals (try simp only [decide_eq_true_eq, decide_eq_false_iff_not, beq_iff_eq, bne_iff_ne, beq_eq_false_iff_ne, bne_eq_false_iff_eq, Int.toNat_natCast, ge_iff_le, gt_iff_lt, Bool.not_eq_true', Bool.not_eq_false', Int.not_lt, Int.not_le, ne_eq] at *)
  all_goals (try dsimp only [Ty.den, Ty.dflt, VerT, sPlace] at *)
  all_goals (try simp only [eq4, ne4, eq3, ne3, eq2, ne2, Prod.eta, List.length_cons, List.length_nil, List.length_append, Nat.zero_add] at *)
  all_goals (try simp (disch := omega) only [wrap64] at *)
  all_goals try first | exact leafDraw (by kernel_rfl) | exact Leaf.mk trivial | (refine Leaf.mk ?_; omega) | (refine Leaf.mk ?_; unfold maxLen; omega)
  · refine Leaf.mk (ret2 (a := ver0) (b := false) ?_ ?_)
    · exact (if_pos h).symm
    · exact (decide_eq_false (Int.not_le.2 h)).symm
  · refine Leaf.mk (ret2 (b := true) ?_ ?_)
    · exact (if_neg (Int.not_lt.2 h)).symm
    · exact (decide_eq_true h).symm
end Go.Proofs.Ytlfehkoklgmjjaa
