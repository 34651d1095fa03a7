import Derived.Test.YtoedpnniaikfbaaH2



set_option linter.unusedVariables false
set_option linter.unusedSimpArgs false
set_option maxRecDepth 8000
set_option maxHeartbeats 4000000
namespace Go.Proofs.Ytoedpnniaikfbaa
open Go.Eng
def sPlaceR : PSpec := sPlace
theorem fPlaceR : FnOk Try.prog 121 := ⟨_, Try.func121, by decide, rfl⟩
theorem pPlaceR : PSound Try.prog 121 sPlaceR := by
  refine psound (T := tab) (S := (spOf [])) (keep := k121) (by kernel_rfl) tabOk spNil (by kernel_rfl) Try.func121 (by kernel_rfl) (by decide) fun xs hg hp => ?_
  obtain ⟨⟨key, xs⟩, me, ⟨⟩⟩ := xs
  obtain ⟨⟨-, hl, -⟩, -⟩ := hg
  change List UInt8 at key
  change List Ver at xs
  change Int at me
  change xs.length ≤ _ at hl
  have hl := len63 hl
  show vfun tab _ k121 Try.f121 [.agg [.s key, .sl VerT xs], .i .i64 me] [] _
  refine Ev.out ?_
  repeat' (first | ((with_reducible refine Ev.mk ?_); conv => whnf) | (with_reducible refine And.intro ?_ ?_) | (intro h))
  refine LoopVC.on (fun i : Nat => [(5, .i .i64 i)]) (fun _ => []) (fun i => i ≤ xs.length ∧ idxF (roomP me) xs 0 = idxF (roomP me) (xs.drop i) i) (fun i => xs.length - i) 0 rfl ⟨by omega, by simp⟩ ?_
  intro i ⟨hi, he⟩
  repeat' (first | ((with_reducible refine Ev.mk ?_); conv => whnf) | (with_reducible refine And.intro ?_ ?_) | (intro h))
  all_goals (try simp only [decide_eq_true_eq, decide_eq_false_iff_not, beq_iff_eq, bne_iff_ne, beq_eq_false_iff_ne, bne_eq_false_iff_eq, Int.toNat_natCast, ge_iff_le, gt_iff_lt, Bool.not_eq_true', Bool.not_eq_false', Int.not_lt, Int.not_le, ne_eq] at *)
  all_goals (try dsimp only [Ty.den, Ty.dflt, VerT] at *)
  all_goals (try simp only [eq4, ne4, eq3, ne3, eq2, ne2, Prod.eta, List.length_cons, List.length_nil, List.length_append, Nat.zero_add] at *)
  all_goals (try simp (disch := omega) only [wrap64] at *)
  all_goals try first | exact leafDraw (by kernel_rfl) | exact Leaf.mk trivial | (refine Leaf.mk ?_; omega) | (refine Leaf.mk ?_; unfold maxLen; omega)
  all_goals first
    | (rw [drop_end (by omega)] at he; exact Leaf.mk (ret1 he.symm))
    | (rw [drop_at ver0 (by omega), idxF, if_pos (show roomP me (xs.getD i ver0) = true by simp only [roomP, Bool.and_eq_true, beq_iff_eq]; exact ⟨‹_›, ‹_›⟩)] at he; exact Leaf.mk (ret1 he.symm))
    | (rw [drop_at ver0 (by omega), idxF, if_neg (show ¬ roomP me (xs.getD i ver0) = true by simp only [roomP, Bool.and_eq_true, beq_iff_eq]; exact fun hc => by first | exact ‹¬ _› hc.1 | exact ‹¬ _› hc.2)] at he; exact Leaf.mk ⟨i + 1, rfl, ⟨by omega, he⟩, by omega⟩)
def sWithR : PSpec := ⟨[.d StT, .d (.slice VerT)], [⟨true, [.d .str, .o 93 VerT]⟩], fun x => List.length x.2.1 ≤ 1000000, fun x => ((x.1.1, (x.2.1, ())), ())⟩
theorem fWithR : FnOk Try.prog 122 := ⟨_, Try.func122, by decide, rfl⟩
theorem pWithR : PSound Try.prog 122 sWithR := by
  refine psound (T := tab) (S := (spOf [])) (keep := k122) (by kernel_rfl) tabOk spNil (by kernel_rfl) Try.func122 (by kernel_rfl) (by decide) fun xs hg hp => ?_
  obtain ⟨⟨key, xs⟩, l, ⟨⟩⟩ := xs
  change List UInt8 at key
  change List Ver at xs
  change List Ver at l
  change l.length ≤ 1000000 at hp
  show vfun tab _ k122 Try.f122 [.agg [.s key, .sl VerT xs], .sl VerT l] [] _
  refine Ev.out ?_
  repeat' (first | ((with_reducible refine Ev.mk ?_); conv => whnf) | (with_reducible refine And.intro ?_ ?_) | (intro h))
  all_goals (try simp only [decide_eq_true_eq, decide_eq_false_iff_not, beq_iff_eq, bne_iff_ne, beq_eq_false_iff_ne, bne_eq_false_iff_eq, Int.toNat_natCast, ge_iff_le, gt_iff_lt, Bool.not_eq_true', Bool.not_eq_false', Int.not_lt, Int.not_le, ne_eq] at *)
  all_goals (try dsimp only [Ty.den, Ty.dflt, VerT] at *)
  all_goals (try simp only [eq4, ne4, eq3, ne3, eq2, ne2, Prod.eta, List.length_cons, List.length_nil, List.length_append, Nat.zero_add] at *)
  all_goals (try simp (disch := omega) only [wrap64] at *)
  all_goals try first | exact leafDraw (by kernel_rfl) | exact Leaf.mk trivial | (refine Leaf.mk ?_; omega) | (refine Leaf.mk ?_; unfold maxLen; omega)
  exact Leaf.mk rfl
def sWriteR : PSpec := ⟨[.d StT, .d VerT], [⟨true, [.d StT]⟩], fun x => List.length x.1.2 ≤ 100000, fun x => ((write x.1 x.2.1, ()), ())⟩
theorem fWriteR : FnOk Try.prog 67 := ⟨_, Try.func67, by decide, rfl⟩
theorem pWriteR : PSound Try.prog 67 sWriteR := by
  refine psound (T := tab) (S := (spOf [(121, sPlaceR.spec (lsOf [])), (122, sWithR.spec (lsOf []))])) (keep := k67) (by kernel_rfl) tabOk (spCons (pOk pPlaceR fPlaceR (by decide) lsNil) (spCons (pOk pWithR fWithR (by decide) lsNil) spNil)) (by kernel_rfl) Try.func67 (by kernel_rfl) (by decide) fun xs hg hp => ?_
  obtain ⟨⟨key, xs⟩, ⟨txn, ts, gone, val⟩, ⟨⟩⟩ := xs
  change List UInt8 at key
  change List Ver at xs
  change xs.length ≤ 100000 at hp
  have hz := idxF_pos (roomP txn) xs 0
  show vfun tab _ k67 Try.f67 [.agg [.s key, .sl VerT xs], .agg [.i .i64 txn, .i .i64 ts, .b gone, .s val]] [] _
  refine Ev.out ?_
  repeat' (first | ((with_reducible refine Ev.mk ?_); conv => whnf) | (with_reducible refine And.intro ?_ ?_) | (intro h))
  all_goals (try simp only [decide_eq_true_eq, decide_eq_false_iff_not, beq_iff_eq, bne_iff_ne, beq_eq_false_iff_ne, bne_eq_false_iff_eq, Int.toNat_natCast, ge_iff_le, gt_iff_lt, Bool.not_eq_true', Bool.not_eq_false', Int.not_lt, Int.not_le, ne_eq] at *)
  all_goals (try dsimp only [Ty.den, Ty.dflt, VerT, sWithR, sPlaceR, sPlace] at *)
  all_goals (try simp only [eq4, ne4, eq3, ne3, eq2, ne2, Prod.eta, List.length_cons, List.length_nil, List.length_append, Nat.zero_add] at *)
  all_goals (try simp (disch := omega) only [wrap64] at *)
  all_goals try first | exact leafDraw (by kernel_rfl) | exact Leaf.mk trivial | (refine Leaf.mk ?_; omega) | (refine Leaf.mk ?_; unfold maxLen; omega)
  · refine Leaf.mk (ret1 (show (key, _) = write (key, xs) (txn, ts, gone, val) from ?_))
    exact (if_pos h).symm
  · refine Leaf.mk (ret1 (show (key, _) = write (key, xs) (txn, ts, gone, val) from ?_))
    exact ((if_neg (Int.not_le.2 ‹idxF (roomP txn) xs 0 < 0›)).trans (if_pos (show xs.length < 8 by omega))).symm
  · refine Leaf.mk (ret1 (show (key, _) = write (key, xs) (txn, ts, gone, val) from ?_))
    exact ((if_neg (Int.not_le.2 ‹idxF (roomP txn) xs 0 < 0›)).trans (if_neg (show ¬ xs.length < 8 by omega))).symm
def abN (me : Int) (xs : List Ver) (i : Nat) : List Ver := (xs.take i).filter (fun v => !roomP me v)
theorem abN_len (me : Int) (xs : List Ver) (i : Nat) : (abN me xs i).length ≤ i := length_filter_take
theorem abN_in {me : Int} {xs : List Ver} {i : Nat} (h : i < xs.length) (hr : roomP me (xs.getD i ver0) = false) : abN me xs (i + 1) = abN me xs i ++ [xs.getD i ver0] := by
  rw [abN, filter_at ver0 h, if_pos (by rw [hr]; rfl)]; rfl
theorem abN_out {me : Int} {xs : List Ver} {i : Nat} (h : i < xs.length) (hr : roomP me (xs.getD i ver0) = true) : abN me xs (i + 1) = abN me xs i := by
  rw [abN, filter_at ver0 h, if_neg (by rw [hr]; simp), List.append_nil]; rfl
theorem keepN_in {ts la : Int} {xs : List Ver} {i : Nat} (h : dropP ts la i (xs.getD i ver0) = false) : keepN ts la xs (i + 1) = keepN ts la xs i ++ [xs.getD i ver0] := by
  rw [keepN, if_neg (by rw [h]; simp)]
theorem keepN_out {ts la : Int} {xs : List Ver} {i : Nat} (h : dropP ts la i (xs.getD i ver0) = true) : keepN ts la xs (i + 1) = keepN ts la xs i := by
  rw [keepN, if_pos h, List.append_nil]
theorem drop_f1 {ts la : Int} {i : Nat} {v : Ver} (h : (i : Int) = la) (h2 : v.2.2.1 = false) : dropP ts la i v = false := by simp [dropP, h, h2]
theorem drop_f2 {ts la : Int} {i : Nat} {v : Ver} (h : ¬ (1 ≤ v.2.1 ∧ v.2.1 ≤ ts)) : dropP ts la i v = false := by simp only [dropP, okTs, decide_eq_false h, Bool.false_and]
theorem drop_t1 {ts la : Int} {i : Nat} {v : Ver} (h : 1 ≤ v.2.1) (h1 : v.2.1 ≤ ts) (h2 : v.2.2.1 = true) : dropP ts la i v = true := by simp [dropP, okTs, h, h1, h2]
theorem drop_t2 {ts la : Int} {i : Nat} {v : Ver} (h : 1 ≤ v.2.1) (h1 : v.2.1 ≤ ts) (h2 : ¬ (i : Int) = la) : dropP ts la i v = true := by simp [dropP, okTs, h, h1, h2]
theorem slot_s1 {ts : Int} {ys : List Ver} {n : Nat} (h : ¬ (ys.getD n ver0).2.1 = 0) (h1 : (ys.getD n ver0).2.1 ≤ ts) : slotN ts ys (n + 1) = n + 1 := by
  rw [slotN, if_neg (by omega)]
theorem slot_s2 {ts : Int} {ys : List Ver} {n : Nat} (h : ts < (ys.getD n ver0).2.1) : slotN ts ys (n + 1) = slotN ts ys n := by
  rw [slotN, if_pos (.inr h)]
theorem slot_s3 {ts : Int} {ys : List Ver} {n : Nat} (h : (ys.getD n ver0).2.1 = 0) : slotN ts ys (n + 1) = slotN ts ys n := by
  rw [slotN, if_pos (.inl h)]
def sAbortR : PSpec := ⟨[.d StT, .d (.int .i64)], [⟨true, [.d StT]⟩], fun x => List.length x.1.2 ≤ 100000, fun x => ((abort x.1 x.2.1, ()), ())⟩
theorem fAbortR : FnOk Try.prog 65 := ⟨_, Try.func65, by decide, rfl⟩
theorem pAbortR : PSound Try.prog 65 sAbortR := by
  refine psound (T := tab) (S := (spOf [])) (keep := k65) (by kernel_rfl) tabOk spNil (by kernel_rfl) Try.func65 (by kernel_rfl) (by decide) fun xs hg hp => ?_
  obtain ⟨⟨key, xs⟩, me, ⟨⟩⟩ := xs
  change List UInt8 at key
  change List Ver at xs
  change Int at me
  change xs.length ≤ 100000 at hp
  show vfun tab _ k65 Try.f65 [.agg [.s key, .sl VerT xs], .i .i64 me] [] _
  refine Ev.out ?_
  repeat' (first | ((with_reducible refine Ev.mk ?_); conv => whnf) | (with_reducible refine And.intro ?_ ?_) | (intro h))
  all_goals (try simp only [decide_eq_true_eq, decide_eq_false_iff_not, beq_iff_eq, bne_iff_ne, beq_eq_false_iff_ne, bne_eq_false_iff_eq, Int.toNat_natCast, ge_iff_le, gt_iff_lt, Bool.not_eq_true', Bool.not_eq_false', Int.not_lt, Int.not_le, ne_eq] at *)
  all_goals (try dsimp only [Ty.den, Ty.dflt, VerT] at *)
  all_goals (try simp only [eq4, ne4, eq3, ne3, eq2, ne2, Prod.eta, List.length_cons, List.length_nil, List.length_append, Nat.zero_add] at *)
  all_goals (try simp (disch := omega) only [wrap64] at *)
  all_goals try first | exact leafDraw (by kernel_rfl) | exact Leaf.mk trivial | (refine Leaf.mk ?_; omega) | (refine Leaf.mk ?_; unfold maxLen; omega)
  refine LoopVC.weak [(.cell 2 1, .nil 93 VerT)] (fun i : Nat => [(6, .i .i64 i)]) (fun i => [(3, .arr 93 VerT (abN me xs i))]) (fun i => i ≤ xs.length) (fun i => xs.length - i) 0 (Ev.mk ?_)
  (conv => whnf)
  refine ⟨Leaf.mk rfl, Leaf.mk ?_, ?_⟩
  · omega
  intro i hi
  have hfl := abN_len me xs i
  repeat' (first | ((with_reducible refine Ev.mk ?_); conv => whnf) | (with_reducible refine And.intro ?_ ?_) | (intro h))
  all_goals (try simp only [decide_eq_true_eq, decide_eq_false_iff_not, beq_iff_eq, bne_iff_ne, beq_eq_false_iff_ne, bne_eq_false_iff_eq, Int.toNat_natCast, ge_iff_le, gt_iff_lt, Bool.not_eq_true', Bool.not_eq_false', Int.not_lt, Int.not_le, ne_eq] at *)
  all_goals (try dsimp only [Ty.den, Ty.dflt, VerT] at *)
  all_goals (try simp only [eq4, ne4, eq3, ne3, eq2, ne2, Prod.eta, List.length_cons, List.length_nil, List.length_append, Nat.zero_add] at *)
  all_goals (try simp (disch := omega) only [wrap64] at *)
  all_goals try first | exact leafDraw (by kernel_rfl) | exact Leaf.mk trivial | (refine Leaf.mk ?_; omega) | (refine Leaf.mk ?_; unfold maxLen; omega)
  all_goals first
    | (refine Leaf.mk ?_; omega)
    | (refine Leaf.mk ?_; unfold maxLen; omega)
    | (refine Leaf.mk ⟨i + 1, ?_, by omega, by omega⟩
       rw [abN_in (by omega) (by
         simp only [roomP, Bool.and_eq_false_iff, beq_eq_false_iff_ne]
         first | exact .inl ‹_› | exact .inr ‹_›)]; rfl)
    | (refine Leaf.mk ⟨i + 1, ?_, by omega, by omega⟩
       rw [abN_out (by omega) (by
         simp only [roomP, Bool.and_eq_true, beq_iff_eq]
         exact ⟨‹_›, ‹_›⟩)]; rfl)
    | (refine Leaf.mk (ret1 (show (key, _) = abort (key, xs) me from ?_))
       rw [abN, take_all (by omega)]; rfl)
def sPruneR : PSpec := ⟨[.d StT, .d (.int .i64)], [⟨true, [.d StT]⟩], fun x => List.length x.1.2 ≤ 100000, fun x => ((prune x.1 x.2.1, ()), ())⟩
theorem fPruneR : FnOk Try.prog 66 := ⟨_, Try.func66, by decide, rfl⟩
theorem pPruneR : PSound Try.prog 66 sPruneR := by
  refine psound (T := tab) (S := (spOf [])) (keep := k66) (by kernel_rfl) tabOk spNil (by kernel_rfl) Try.func66 (by kernel_rfl) (by decide) fun xs hg hp => ?_
  obtain ⟨⟨key, xs⟩, ts, ⟨⟩⟩ := xs
  change List UInt8 at key
  change List Ver at xs
  change Int at ts
  change xs.length ≤ 100000 at hp
  show vfun tab _ k66 Try.f66 [.agg [.s key, .sl VerT xs], .i .i64 ts] [] _
  refine Ev.out ?_
  repeat' (first | ((with_reducible refine Ev.mk ?_); conv => whnf) | (with_reducible refine And.intro ?_ ?_) | (intro h))
  all_goals (try simp only [decide_eq_true_eq, decide_eq_false_iff_not, beq_iff_eq, bne_iff_ne, beq_eq_false_iff_ne, bne_eq_false_iff_eq, Int.toNat_natCast, ge_iff_le, gt_iff_lt, Bool.not_eq_true', Bool.not_eq_false', Int.not_lt, Int.not_le, ne_eq] at *)
  all_goals (try dsimp only [Ty.den, Ty.dflt, VerT] at *)
  all_goals (try simp only [eq4, ne4, eq3, ne3, eq2, ne2, Prod.eta, List.length_cons, List.length_nil, List.length_append, Nat.zero_add] at *)
  all_goals (try simp (disch := omega) only [wrap64] at *)
  all_goals try first | exact leafDraw (by kernel_rfl) | exact Leaf.mk trivial | (refine Leaf.mk ?_; omega) | (refine Leaf.mk ?_; unfold maxLen; omega)
  refine LoopVC.on (fun i : Nat => [(5, .i .i64 (lastN ts xs i)), (6, .i .i64 i)]) (fun _ => []) (fun i => i ≤ xs.length) (fun i => xs.length - i) 0 rfl (by omega) ?_
  intro i hi
  repeat' (first | ((with_reducible refine Ev.mk ?_); conv => whnf) | (with_reducible refine And.intro ?_ ?_) | (intro h))
  all_goals (try simp only [decide_eq_true_eq, decide_eq_false_iff_not, beq_iff_eq, bne_iff_ne, beq_eq_false_iff_ne, bne_eq_false_iff_eq, Int.toNat_natCast, ge_iff_le, gt_iff_lt, Bool.not_eq_true', Bool.not_eq_false', Int.not_lt, Int.not_le, ne_eq] at *)
  all_goals (try dsimp only [Ty.den, Ty.dflt, VerT] at *)
  all_goals (try simp only [eq4, ne4, eq3, ne3, eq2, ne2, Prod.eta, List.length_cons, List.length_nil, List.length_append, Nat.zero_add] at *)
  all_goals (try simp (disch := omega) only [wrap64] at *)
  all_goals try first | exact leafDraw (by kernel_rfl) | exact Leaf.mk trivial | (refine Leaf.mk ?_; omega) | (refine Leaf.mk ?_; unfold maxLen; omega)
  rotate_right
  · obtain rfl : i = xs.length := by omega
    clear h
    generalize hla : lastN ts xs xs.length = la
    refine LoopVC.weak [(.cell 2 1, .nil 93 VerT)] (fun i : Nat => [(8, .i .i64 i)]) (fun i => [(3, .arr 93 VerT (keepN ts la xs i))]) (fun i => i ≤ xs.length) (fun i => xs.length - i) 0 (Ev.mk ?_)
    (conv => whnf)
    refine ⟨Leaf.mk rfl, Leaf.mk ?_, ?_⟩
    · omega
    intro i hi
    have hkl := keepN_le ts la xs i
    repeat' (first | ((with_reducible refine Ev.mk ?_); conv => whnf) | (with_reducible refine And.intro ?_ ?_) | (intro h))
    all_goals (try simp only [decide_eq_true_eq, decide_eq_false_iff_not, beq_iff_eq, bne_iff_ne, beq_eq_false_iff_ne, bne_eq_false_iff_eq, Int.toNat_natCast, ge_iff_le, gt_iff_lt, Bool.not_eq_true', Bool.not_eq_false', Int.not_lt, Int.not_le, ne_eq] at *)
    all_goals (try dsimp only [Ty.den, Ty.dflt, VerT] at *)
    all_goals (try simp only [eq4, ne4, eq3, ne3, eq2, ne2, Prod.eta, List.length_cons, List.length_nil, List.length_append, Nat.zero_add] at *)
    all_goals (try simp (disch := omega) only [wrap64] at *)
    all_goals try first | exact leafDraw (by kernel_rfl) | exact Leaf.mk trivial | (refine Leaf.mk ?_; omega) | (refine Leaf.mk ?_; unfold maxLen; omega)
    all_goals first
      | (refine Leaf.mk (ret1 (show (key, _) = prune (key, xs) ts from ?_))
         unfold prune; dsimp only; rw [hla, show i = xs.length by omega]; done)
      | (refine Leaf.mk ⟨i + 1, ?_, by omega, by omega⟩
         first
         | (rw [keepN_in (drop_f1 ‹(i : Int) = la› ‹_›)]; rfl)
         | (rw [keepN_in (drop_f2 (fun hc => Int.not_lt.2 hc.2 ‹_›))]; rfl)
         | (rw [keepN_in (drop_f2 (fun hc => Int.not_lt.2 hc.1 ‹_›))]; rfl)
         | (rw [keepN_out (drop_t1 ‹_› ‹_› ‹_›)]; rfl)
         | (rw [keepN_out (drop_t2 ‹_› ‹_› ‹¬ (i : Int) = la›)]; rfl))
  all_goals first
    | (refine Leaf.mk ⟨i + 1, ?_, by omega, by omega⟩
       rw [lastN, if_pos (show okTs ts (xs.getD i ver0) = true from decide_eq_true ⟨‹_›, ‹_›⟩)]; rfl)
    | (refine Leaf.mk ⟨i + 1, ?_, by omega, by omega⟩
       rw [lastN, if_neg (show ¬ okTs ts (xs.getD i ver0) = true from fun hc => by have := of_decide_eq_true hc; dsimp only [ver0] at *; omega)]; rfl)
def sCommitR : PSpec := ⟨[.d StT, .d (.int .i64), .d (.int .i64)], [⟨true, [.d StT]⟩], fun x => List.length x.1.2 ≤ 100000, fun x => ((commit x.1 x.2.1 x.2.2.1, ()), ())⟩
theorem fCommitR : FnOk Try.prog 64 := ⟨_, Try.func64, by decide, rfl⟩
theorem pCommitR : PSound Try.prog 64 sCommitR := by
  refine psound (T := tab) (S := (spOf [(121, sPlaceR.spec (lsOf [])), (122, sWithR.spec (lsOf []))])) (keep := k64) (by kernel_rfl) tabOk (spCons (pOk pPlaceR fPlaceR (by decide) lsNil) (spCons (pOk pWithR fWithR (by decide) lsNil) spNil)) (by kernel_rfl) Try.func64 (by kernel_rfl) (by decide) fun xs hg hp => ?_
  obtain ⟨⟨key, xs⟩, me, ts, ⟨⟩⟩ := xs
  change List UInt8 at key
  change List Ver at xs
  change Int at me ts
  change xs.length ≤ 100000 at hp
  have hz := idxF_pos (roomP me) xs 0
  show vfun tab _ k64 Try.f64 [.agg [.s key, .sl VerT xs], .i .i64 me, .i .i64 ts] [] _
  refine Ev.out ?_
  repeat' (first | ((with_reducible refine Ev.mk ?_); conv => whnf) | (with_reducible refine And.intro ?_ ?_) | (intro h))
  all_goals (try simp only [decide_eq_true_eq, decide_eq_false_iff_not, beq_iff_eq, bne_iff_ne, beq_eq_false_iff_ne, bne_eq_false_iff_eq, Int.toNat_natCast, ge_iff_le, gt_iff_lt, Bool.not_eq_true', Bool.not_eq_false', Int.not_lt, Int.not_le, ne_eq] at *)
  all_goals (try dsimp only [Ty.den, Ty.dflt, VerT, sWithR, sPlaceR, sPlace] at *)
  all_goals (try simp only [eq4, ne4, eq3, ne3, eq2, ne2, Prod.eta, List.length_cons, List.length_nil, List.length_append, Nat.zero_add] at *)
  all_goals (try simp (disch := omega) only [wrap64] at *)
  all_goals try first | exact leafDraw (by kernel_rfl) | exact Leaf.mk trivial | (refine Leaf.mk ?_; omega) | (refine Leaf.mk ?_; unfold maxLen; omega)
  · exact Leaf.mk (ret1 (show (key, xs) = commit (key, xs) me ts from (if_pos (.inl h)).symm))
  · exact Leaf.mk (ret1 (show (key, xs) = commit (key, xs) me ts from (if_pos (.inr h)).symm))
  all_goals
    obtain ⟨p, hp0⟩ := Int.eq_ofNat_of_zero_le (show 0 ≤ idxF (roomP me) xs 0 by omega)
    have hpl : p < xs.length := by omega
  all_goals have hq0 : (idxF (roomP me) xs 0).toNat = p := by omega
  all_goals have hq1 : (idxF (roomP me) xs 0 + 1).toNat = p + 1 := by omega
  all_goals rw [hq0] at *
  all_goals simp only [hq1, Int.toNat_natCast, Int.toNat_zero, List.drop_zero, List.nil_append, take_all (Nat.le_refl xs.length)] at *
  all_goals try rw [show xs.take p ++ xs.drop (p + 1) = cut xs p from rfl]
  all_goals try first
    | (refine Leaf.mk ?_; simp only [List.length_take, List.length_drop]; omega)
    | (refine Leaf.mk ?_; simp only [List.length_take, List.length_drop]; unfold maxLen; omega)
  have hC : commit (key, xs) me ts = (key, (cut xs p).take (slotN ts (cut xs p) (cut xs p).length) ++ ([((xs.getD p ver0).1, ts, (xs.getD p ver0).2.2)] ++ (cut xs p).drop (slotN ts (cut xs p) (cut xs p).length))) := by
    refine (if_neg (show ¬ (idxF (roomP me) xs 0 < 0 ∨ ts < 1) by omega)).trans ?_
    show (key, _) = _
    dsimp only
    rw [hp0, Int.toNat_natCast]
  have hyl : (cut xs p).length ≤ 100000 := by simp [cut]; omega
  generalize hys : cut xs p = ys at *
  refine LoopVC.weak [(.slot 9, .frz)] (fun n : Nat => [(10, .i .i64 (slotN ts ys n)), (11, .i .i64 n)]) (fun _ => []) (fun n => n ≤ ys.length) (fun n => ys.length - n) 0 (Ev.mk ?_)
  (conv => whnf)
  refine ⟨Leaf.mk ?_, Leaf.mk ?_, ?_⟩
  · rfl
  · exact Nat.zero_le _
  intro n hn
  have hsl := slotN_le (ts := ts) (ys := ys) n
  repeat' (first | ((with_reducible refine Ev.mk ?_); conv => whnf) | (with_reducible refine And.intro ?_ ?_) | (intro h))
  all_goals (try simp only [decide_eq_true_eq, decide_eq_false_iff_not, beq_iff_eq, bne_iff_ne, beq_eq_false_iff_ne, bne_eq_false_iff_eq, Int.toNat_natCast, ge_iff_le, gt_iff_lt, Bool.not_eq_true', Bool.not_eq_false', Int.not_lt, Int.not_le, ne_eq] at *)
  all_goals (try dsimp only [Ty.den, Ty.dflt, VerT, sWithR] at *)
  all_goals (try simp only [eq4, ne4, eq3, ne3, eq2, ne2, Prod.eta, List.length_cons, List.length_nil, List.length_append, Nat.zero_add] at *)
  all_goals (try simp (disch := omega) only [wrap64] at *)
  all_goals try first | exact leafDraw (by kernel_rfl) | exact Leaf.mk trivial | (refine Leaf.mk ?_; omega) | (refine Leaf.mk ?_; unfold maxLen; omega)
  all_goals try first
    | (refine Leaf.mk ⟨n + 1, ?_, by omega, by omega⟩
       first
       | (rw [slot_s1 ‹_› ‹_›]; rfl)
       | (rw [slot_s2 ‹_›]; rfl)
       | (rw [slot_s3 ‹_›]; rfl))
    | (refine Leaf.mk ?_; simp only [List.length_append, List.length_take, List.length_drop, List.length_singleton]; omega)
    | (refine Leaf.mk ?_; simp only [List.length_append, List.length_take, List.length_drop, List.length_singleton]; unfold maxLen; omega)
  refine Leaf.mk (ret1 (show (key, _) = commit (key, xs) me ts from ?_))
  rw [hC, show n = ys.length by omega, Int.toNat_zero, List.drop_zero, List.nil_append, List.append_assoc, take_all (Nat.le_refl ys.length)]
theorem fApplyR : FnOk Try.prog 18 := ⟨_, Try.func18, by decide, rfl⟩
theorem pApplyR : PSound Try.prog 18 sApplyR := by
  refine psound (T := tab) (S := (spOf [(22, sMCheckR.spec (lsOf [])), (63, sAboutR.spec (lsOf [])), (64, sCommitR.spec (lsOf [])), (65, sAbortR.spec (lsOf [])), (66, sPruneR.spec (lsOf [])), (67, sWriteR.spec (lsOf []))])) (keep := k18) (by kernel_rfl) tabOk (spCons (pOk pMCheckR fMCheckR (by decide) lsNil) (spCons (pOk pAboutR fAboutR (by decide) lsNil) (spCons (pOk pCommitR fCommitR (by decide) lsNil) (spCons (pOk pAbortR fAbortR (by decide) lsNil) (spCons (pOk pPruneR fPruneR (by decide) lsNil) (spCons (pOk pWriteR fWriteR (by decide) lsNil) spNil)))))) (by kernel_rfl) Try.func18 (by kernel_rfl) (by decide) fun xs hg hp => ?_
  obtain ⟨⟨skey, xs⟩, ⟨kind, key, txn, ts, gone, val⟩, ⟨⟩⟩ := xs
  obtain ⟨-, hg⟩ := hg
  obtain ⟨⟨hk, -⟩, -⟩ := hg
  change List UInt8 at key
  change List UInt8 at val
  change Int at kind txn ts
  change Bool at gone
  have hk := bdu8 hk
  change List UInt8 at skey
  change List Ver at xs
  change xs.length ≤ 100000 at hp
  show vfun tab _ k18 Try.f18 [.agg [.s skey, .sl VerT xs], .agg [.i .u8 kind, .s key, .i .i64 txn, .i .i64 ts, .b gone, .s val]] [] _
  refine Ev.out ?_
  repeat' (first | ((with_reducible refine Ev.mk ?_); conv => whnf) | (with_reducible refine And.intro ?_ ?_) | (intro h))
  all_goals (try simp only [decide_eq_true_eq, decide_eq_false_iff_not, beq_iff_eq, bne_iff_ne, beq_eq_false_iff_ne, bne_eq_false_iff_eq, Int.toNat_natCast, ge_iff_le, gt_iff_lt, Bool.not_eq_true', Bool.not_eq_false', Int.not_lt, Int.not_le, ne_eq] at *)
  all_goals (try dsimp only [Ty.den, Ty.dflt, MsgT, VerT, sMCheck, sAbout, sAboutR, sMCheckR] at *)
  all_goals (try simp only [eq4, ne4, eq3, ne3, eq2, ne2, Prod.eta, List.length_cons, List.length_nil, List.length_append, Nat.zero_add] at *)
  all_goals (try simp (disch := omega) only [wrap64] at *)
  all_goals try first | exact leafDraw (by kernel_rfl) | exact Leaf.mk trivial | (refine Leaf.mk ?_; omega) | (refine Leaf.mk ?_; unfold maxLen; omega)
  all_goals try first
    | exact Leaf.mk (show xs.length ≤ 100000 from hp)
    | exact Leaf.mk (show xs.length ≤ 1000000 by omega)
  all_goals
    refine Leaf.mk (ret1 (show (_ : Stk) = applyM (skey, xs) (kind, key, txn, ts, gone, val) from ?_))
    unfold applyM
    first
    | (refine Eq.trans ?_ (if_neg (fun hc => h hc.1)).symm; rfl)
    | (refine Eq.trans ?_ (if_neg (fun hc => Bool.noConfusion (hc.2.symm.trans h))).symm; rfl)
    | (refine Eq.trans ?_ (if_pos ⟨‹mcheck _ = 0›, ‹about _ _ = true›⟩).symm
       first
       | (refine Eq.trans ?_ (if_pos ‹kind = 1›).symm; rfl)
       | (refine Eq.trans ?_ (if_neg ‹¬ kind = 1›).symm
          first
          | (refine Eq.trans ?_ (if_pos ‹kind = 2›).symm; rfl)
          | (refine Eq.trans ?_ (if_neg ‹¬ kind = 2›).symm
             first
             | (refine Eq.trans ?_ (if_pos ‹kind = 3›).symm; rfl)
             | (refine Eq.trans ?_ (if_neg ‹¬ kind = 3›).symm; rfl))))
theorem write_len' (s : Stk) (v : Ver) : (write s v).2.length ≤ s.2.length + 1 := by
  unfold write; repeat' split
  all_goals simp
theorem abort_len (s : Stk) (me : Int) : (abort s me).2.length ≤ s.2.length := List.length_filter_le _ _
theorem prune_len (s : Stk) (ts : Int) : (prune s ts).2.length ≤ s.2.length := keepN_le _ _ _ _
theorem commit_len (s : Stk) (me ts : Int) : (commit s me ts).2.length ≤ s.2.length + 1 := by
  unfold commit
  split
  · exact Nat.le_succ _
  · simp only [List.length_append, List.length_take, List.length_drop, List.length_singleton, cut]
    omega
theorem apply_len (s : Stk) (m : Msg) : (applyM s m).2.length ≤ s.2.length + 1 := by
  have h1 := write_len' s (m.2.2.1, 0, m.2.2.2.2.1, m.2.2.2.2.2)
  have h2 := abort_len s m.2.2.1
  have h3 := prune_len s m.2.2.2.1
  have h4 := commit_len s m.2.2.1 m.2.2.2.1
  unfold applyM
  repeat' split
  all_goals omega
def foldM (s : Stk) (l : List Msg) : Stk := l.foldl applyM s
theorem fold_len : ∀ (l : List Msg) (s : Stk), (foldM s l).2.length ≤ s.2.length + l.length
  | [], s => Nat.le_refl _
  | m :: l, s => by
    have h1 := apply_len s m
    have h2 := fold_len l (applyM s m)
    show (foldM (applyM s m) l).2.length ≤ _
    rw [List.length_cons]; omega
def sFold : PSpec := ⟨[.d StT, .d (.slice MsgT)], [⟨true, [.d StT]⟩], fun x => List.length x.1.2 + List.length x.2.1 ≤ 50000, fun x => ((foldM x.1 x.2.1, ()), ())⟩
def sFoldR : PSpec := sFold
theorem fFold : FnOk Try.prog 23 := ⟨_, Try.func23, by decide, rfl⟩
theorem pFold : PSound Try.prog 23 sFold := by
  refine psound (T := tab) (S := (spOf [(17, sApply.spec (lsOf []))])) (keep := k23) (by kernel_rfl) tabOk (spCons (pOk pApply fApply (by decide) lsNil) spNil) (by kernel_rfl) Try.func23 (by kernel_rfl) (by decide) fun xs hg hp => ?_
  obtain ⟨⟨skey, xs⟩, l, ⟨⟩⟩ := xs
  change List UInt8 at skey
  change List Ver at xs
  change List Msg at l
  change xs.length + l.length ≤ 50000 at hp
  clear hg
  show vfun tab _ k23 Try.f23 [.agg [.s skey, .sl VerT xs], .sl MsgT l] [] _
  refine Ev.out ?_
  repeat' (first | ((with_reducible refine Ev.mk ?_); conv => whnf) | (with_reducible refine And.intro ?_ ?_) | (intro h))
  all_goals (try simp only [decide_eq_true_eq, decide_eq_false_iff_not, beq_iff_eq, bne_iff_ne, beq_eq_false_iff_ne, bne_eq_false_iff_eq, Int.toNat_natCast, ge_iff_le, gt_iff_lt, Bool.not_eq_true', Bool.not_eq_false', Int.not_lt, Int.not_le, ne_eq] at *)
  all_goals (try dsimp only [Ty.den, Ty.dflt, VerT, MsgT] at *)
  all_goals (try simp only [eq4, ne4, eq3, ne3, eq2, ne2, Prod.eta, List.length_cons, List.length_nil, List.length_append, Nat.zero_add] at *)
  all_goals (try simp (disch := omega) only [wrap64] at *)
  all_goals try first | exact leafDraw (by kernel_rfl) | exact Leaf.mk trivial | (refine Leaf.mk ?_; omega) | (refine Leaf.mk ?_; unfold maxLen; omega)
  refine LoopVC.on (fun i : Nat => [(9, .i .i64 i)]) (fun i => [(0, .box [.s (foldM (skey, xs) (l.take i)).1, .sl VerT (foldM (skey, xs) (l.take i)).2])]) (fun i => i ≤ l.length) (fun i => l.length - i) 0 rfl (by omega) ?_
  intro i hi
  have hfl := fold_len (l.take i) (skey, xs)
  have htl : (l.take i).length ≤ i := by rw [List.length_take]; omega
  have hat : ∀ h : i < l.length, foldM (skey, xs) (l.take (i + 1)) = applyM (foldM (skey, xs) (l.take i)) (l.getD i msg0) := fun h => foldl_at msg0 h
  generalize hS : foldM (skey, xs) (l.take i) = S at *
  repeat' (first | ((with_reducible refine Ev.mk ?_); conv => whnf) | (with_reducible refine And.intro ?_ ?_) | (intro h))
  all_goals (try simp only [decide_eq_true_eq, decide_eq_false_iff_not, beq_iff_eq, bne_iff_ne, beq_eq_false_iff_ne, bne_eq_false_iff_eq, Int.toNat_natCast, ge_iff_le, gt_iff_lt, Bool.not_eq_true', Bool.not_eq_false', Int.not_lt, Int.not_le, ne_eq] at *)
  all_goals (try dsimp only [Ty.den, Ty.dflt, VerT, MsgT] at *)
  all_goals (try simp only [eq4, ne4, eq3, ne3, eq2, ne2, Prod.eta, List.length_cons, List.length_nil, List.length_append, Nat.zero_add] at *)
  all_goals (try simp (disch := omega) only [wrap64] at *)
  all_goals try first | exact leafDraw (by kernel_rfl) | exact Leaf.mk trivial | (refine Leaf.mk ?_; omega) | (refine Leaf.mk ?_; unfold maxLen; omega)
  all_goals first
    | exact Leaf.mk (show S.2.length ≤ 100000 by omega)
    | (refine Leaf.mk ⟨i + 1, ?_, by omega, by omega⟩
       rw [hat (by omega)]; rfl)
    | (refine Leaf.mk (ret1 (show (S.1, S.2) = foldM (skey, xs) l from ?_))
       rw [← hS, take_all (by omega)])
theorem fFoldR : FnOk Try.prog 24 := ⟨_, Try.func24, by decide, rfl⟩
theorem pFoldR : PSound Try.prog 24 sFoldR := by
  refine psound (T := tab) (S := (spOf [(18, sApplyR.spec (lsOf []))])) (keep := k24) (by kernel_rfl) tabOk (spCons (pOk pApplyR fApplyR (by decide) lsNil) spNil) (by kernel_rfl) Try.func24 (by kernel_rfl) (by decide) fun xs hg hp => ?_
  obtain ⟨⟨skey, xs⟩, l, ⟨⟩⟩ := xs
  change List UInt8 at skey
  change List Ver at xs
  change List Msg at l
  change xs.length + l.length ≤ 50000 at hp
  clear hg
  show vfun tab _ k24 Try.f24 [.agg [.s skey, .sl VerT xs], .sl MsgT l] [] _
  refine Ev.out ?_
  repeat' (first | ((with_reducible refine Ev.mk ?_); conv => whnf) | (with_reducible refine And.intro ?_ ?_) | (intro h))
  all_goals (try simp only [decide_eq_true_eq, decide_eq_false_iff_not, beq_iff_eq, bne_iff_ne, beq_eq_false_iff_ne, bne_eq_false_iff_eq, Int.toNat_natCast, ge_iff_le, gt_iff_lt, Bool.not_eq_true', Bool.not_eq_false', Int.not_lt, Int.not_le, ne_eq] at *)
  all_goals (try dsimp only [Ty.den, Ty.dflt, VerT, MsgT] at *)
  all_goals (try simp only [eq4, ne4, eq3, ne3, eq2, ne2, Prod.eta, List.length_cons, List.length_nil, List.length_append, Nat.zero_add] at *)
  all_goals (try simp (disch := omega) only [wrap64] at *)
  all_goals try first | exact leafDraw (by kernel_rfl) | exact Leaf.mk trivial | (refine Leaf.mk ?_; omega) | (refine Leaf.mk ?_; unfold maxLen; omega)
  refine LoopVC.on (fun i : Nat => [(5, .i .i64 i)]) (fun i => [(0, .box [.s (foldM (skey, xs) (l.take i)).1, .sl VerT (foldM (skey, xs) (l.take i)).2])]) (fun i => i ≤ l.length) (fun i => l.length - i) 0 rfl (by omega) ?_
  intro i hi
  have hfl := fold_len (l.take i) (skey, xs)
  have htl : (l.take i).length ≤ i := by rw [List.length_take]; omega
  have hat : ∀ h : i < l.length, foldM (skey, xs) (l.take (i + 1)) = applyM (foldM (skey, xs) (l.take i)) (l.getD i msg0) := fun h => foldl_at msg0 h
  generalize hS : foldM (skey, xs) (l.take i) = S at *
  repeat' (first | ((with_reducible refine Ev.mk ?_); conv => whnf) | (with_reducible refine And.intro ?_ ?_) | (intro h))
  all_goals (try simp only [decide_eq_true_eq, decide_eq_false_iff_not, beq_iff_eq, bne_iff_ne, beq_eq_false_iff_ne, bne_eq_false_iff_eq, Int.toNat_natCast, ge_iff_le, gt_iff_lt, Bool.not_eq_true', Bool.not_eq_false', Int.not_lt, Int.not_le, ne_eq] at *)
  all_goals (try dsimp only [Ty.den, Ty.dflt, VerT, MsgT] at *)
  all_goals (try simp only [eq4, ne4, eq3, ne3, eq2, ne2, Prod.eta, List.length_cons, List.length_nil, List.length_append, Nat.zero_add] at *)
  all_goals (try simp (disch := omega) only [wrap64] at *)
  all_goals try first | exact leafDraw (by kernel_rfl) | exact Leaf.mk trivial | (refine Leaf.mk ?_; omega) | (refine Leaf.mk ?_; unfold maxLen; omega)
  all_goals first
    | exact Leaf.mk (show S.2.length ≤ 100000 by omega)
    | (refine Leaf.mk ⟨i + 1, ?_, by omega, by omega⟩
       rw [hat (by omega)]; rfl)
    | (refine Leaf.mk (ret1 (show (S.1, S.2) = foldM (skey, xs) l from ?_))
       rw [← hS, take_all (by omega)])
end Go.Proofs.Ytoedpnniaikfbaa
