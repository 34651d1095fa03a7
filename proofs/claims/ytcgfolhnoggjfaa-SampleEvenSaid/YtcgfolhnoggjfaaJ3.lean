import Derived.Test.YtcgfolhnoggjfaaJ2



set_option linter.unusedVariables false
set_option linter.unusedSimpArgs false
set_option maxRecDepth 8000
set_option maxHeartbeats 4000000
namespace Go.Proofs.Ytcgfolhnoggjfaa
open Go.Eng
abbrev CntT : Ty := .pair .str (.pair (.int .i64) (.int .i64))
abbrev CntsT : Ty := .slice CntT
abbrev Cnt := Str × Int × Int
abbrev cnt0 : Cnt := ([], 0, 0)
abbrev PairT : Ty := .pair .str .str
abbrev Pr := Str × Str
abbrev I64T : Ty := .int .i64
abbrev w64 (n : Int) : Int := IntKind.i64.wrap n
theorem w64_bd (n : Int) : -9223372036854775808 ≤ w64 n ∧ w64 n ≤ 9223372036854775807 := by
  unfold w64; rw [IntKind.wrap_i64]; omega
theorem w64_add (a b : Int) : w64 (w64 a + b) = w64 (a + b) := by
  unfold w64; simp only [IntKind.wrap_i64]; omega
theorem w64_add2 (a b : Int) : w64 (a + w64 b) = w64 (a + b) := by
  unfold w64; simp only [IntKind.wrap_i64]; omega
def totF (l : List Int) : Int := l.foldl (fun n x => w64 (n + x)) 0
theorem totF_two (a b : Int) : totF [a, b] = w64 (a + b) := by
  show w64 (w64 (0 + a) + b) = _
  rw [w64_add, Int.zero_add]
def sTotal : PSpec := ⟨[.d (.slice (.int .i64))], [⟨false, [.d (.int .i64)]⟩], fun _ => True, fun x => ((totF x.1, ()), ())⟩
theorem fTotal : FnOk Try.prog 55 := ⟨_, Try.func55, by decide, rfl⟩
theorem pTotal : PSound Try.prog 55 sTotal := by
  refine psound (T := tab) (S := (spOf [])) (keep := k55) (by kernel_rfl) tabOk spNil (by kernel_rfl) Try.func55 (by kernel_rfl) (by decide) fun xs hg hp => ?_
  obtain ⟨xs, ⟨⟩⟩ := xs
  obtain ⟨⟨hl, -⟩, -⟩ := hg
  change List Int at xs
  change xs.length ≤ _ at hl
  have hl := len63 hl
  clear hp
  show vfun tab _ k55 Try.f55 [.sl (.int .i64) xs] [] _
  refine Ev.out ?_
  repeat' (first | ((with_reducible refine Ev.mk ?_); conv => whnf) | (with_reducible refine And.intro ?_ ?_) | (intro h))
  all_goals (try simp only [decide_eq_true_eq, decide_eq_false_iff_not, beq_iff_eq, bne_iff_ne, beq_eq_false_iff_ne, bne_eq_false_iff_eq, Int.toNat_natCast, ge_iff_le, gt_iff_lt, Bool.not_eq_true', Bool.not_eq_false', Int.not_lt, Int.not_le, ne_eq] at *)
  all_goals (try dsimp only [Ty.den, Ty.dflt, I64T] at *)
  all_goals (try simp only [eq4, ne4, eq3, ne3, eq2, ne2, Prod.eta, List.length_cons, List.length_nil, List.length_append, Nat.zero_add] at *)
  all_goals (try simp (disch := omega) only [wrap64] at *)
  all_goals try first | exact leafDraw (by kernel_rfl) | exact Leaf.mk trivial | (refine Leaf.mk ?_; omega) | (refine Leaf.mk ?_; unfold maxLen; omega)
  refine LoopVC.on (fun i : Nat => [(3, .i .i64 (totF (xs.take i))), (8, .i .i64 i)]) (fun _ => []) (fun i => i ≤ xs.length) (fun i => xs.length - i) 0 rfl (by omega) ?_
  intro i hi
  have hat : ∀ h : i < xs.length, totF (xs.take (i + 1)) = w64 (totF (xs.take i) + xs.getD i 0) := fun h => foldl_at 0 h
  repeat' (first | ((with_reducible refine Ev.mk ?_); conv => whnf) | (with_reducible refine And.intro ?_ ?_) | (intro h))
  all_goals (try simp only [decide_eq_true_eq, decide_eq_false_iff_not, beq_iff_eq, bne_iff_ne, beq_eq_false_iff_ne, bne_eq_false_iff_eq, Int.toNat_natCast, ge_iff_le, gt_iff_lt, Bool.not_eq_true', Bool.not_eq_false', Int.not_lt, Int.not_le, ne_eq] at *)
  all_goals (try dsimp only [Ty.den, Ty.dflt, I64T] at *)
  all_goals (try simp only [eq4, ne4, eq3, ne3, eq2, ne2, Prod.eta, List.length_cons, List.length_nil, List.length_append, Nat.zero_add] at *)
  all_goals (try simp (disch := omega) only [wrap64] at *)
  all_goals try first | exact leafDraw (by kernel_rfl) | exact Leaf.mk trivial | (refine Leaf.mk ?_; omega) | (refine Leaf.mk ?_; unfold maxLen; omega)
  all_goals first
    | (refine Leaf.mk ⟨i + 1, ?_, by omega, by omega⟩
       rw [hat (by omega)]; rfl)
    | (refine Leaf.mk (ret1 (show _ = totF xs from ?_))
       rw [take_all (by omega)])
def addC (c d : Cnt) : Cnt := (c.1, w64 (c.2.1 + d.2.1), w64 (c.2.2 + d.2.2))
def sAddC : PSpec := ⟨[.d CntT, .d CntT], [⟨true, [.d CntT]⟩], fun _ => True, fun x => ((addC x.1 x.2.1, ()), ())⟩
theorem fAddC : FnOk Try.prog 54 := ⟨_, Try.func54, by decide, rfl⟩
theorem pAddC : PSound Try.prog 54 sAddC := by
  refine psound (T := tab) (S := (spOf [(55, sTotal.spec (lsOf []))])) (keep := k54) (by kernel_rfl) tabOk (spCons (pOk pTotal fTotal (by decide) lsNil) spNil) (by kernel_rfl) Try.func54 (by kernel_rfl) (by decide) fun xs hg hp => ?_
  obtain ⟨⟨lo, k, b⟩, ⟨lo2, k2, b2⟩, ⟨⟩⟩ := xs
  change Str at lo lo2
  change Int at k b k2 b2
  show vfun tab _ k54 Try.f54 [.agg [.s lo, .i .i64 k, .i .i64 b], .agg [.s lo2, .i .i64 k2, .i .i64 b2]] [] _
  refine Ev.out ?_
  repeat' (first | ((with_reducible refine Ev.mk ?_); conv => whnf) | (with_reducible refine And.intro ?_ ?_) | (intro h))
  all_goals (try simp only [decide_eq_true_eq, decide_eq_false_iff_not, beq_iff_eq, bne_iff_ne, beq_eq_false_iff_ne, bne_eq_false_iff_eq, Int.toNat_natCast, ge_iff_le, gt_iff_lt, Bool.not_eq_true', Bool.not_eq_false', Int.not_lt, Int.not_le, ne_eq] at *)
  all_goals (try dsimp only [Ty.den, Ty.dflt, CntT] at *)
  all_goals (try simp only [eq4, ne4, eq3, ne3, eq2, ne2, Prod.eta, List.length_cons, List.length_nil, List.length_append, Nat.zero_add] at *)
  all_goals (try simp (disch := omega) only [wrap64] at *)
  all_goals try first | exact leafDraw (by kernel_rfl) | exact Leaf.mk trivial | (refine Leaf.mk ?_; omega) | (refine Leaf.mk ?_; unfold maxLen; omega)
  all_goals first
    | exact Leaf.mk trivial
    | skip
  refine Leaf.mk (ret1 (show ((lo, totF [k, k2], totF [b, b2]) : Cnt) = addC (lo, k, b) (lo2, k2, b2) from ?_))
  rw [totF_two, totF_two]; rfl
def loAt (pv : List Str) (i : Nat) : Str := if i = 0 then [] else pv.getD (i - 1) []
def stepC (pv : List Str) (i : Nat) (a : Int × Int) (p : Pr) : Int × Int := if placeF pv p.1 = i then (w64 (a.1 + 1), w64 (a.2 + w64 ((p.1.length : Nat) + (p.2.length : Nat)))) else a
def cntI (pv : List Str) (l : List Pr) (i : Nat) : Int × Int := l.foldl (stepC pv i) (0, 0)
def countsF (pv : List Str) (l : List Pr) : List Cnt := (List.range (pv.length + 1)).map fun i => (loAt pv i, (cntI pv l i).1, (cntI pv l i).2)
theorem placeF_le (pv : List Str) (k : Str) : placeF pv k ≤ pv.length := List.countP_le_length
theorem countsF_len (pv : List Str) (l : List Pr) : (countsF pv l).length = pv.length + 1 := by rw [countsF, List.length_map, List.length_range]
theorem countsF_get (pv : List Str) (l : List Pr) {i : Nat} (h : i ≤ pv.length) : (countsF pv l).getD i cnt0 = (loAt pv i, (cntI pv l i).1, (cntI pv l i).2) := by
  rw [countsF, List.getD_eq_getElem?_getD, List.getElem?_map, List.getElem?_range (by omega)]; rfl
theorem cntI_at (pv : List Str) {l : List Pr} {j : Nat} (h : j < l.length) (i : Nat) : cntI pv (l.take (j + 1)) i = stepC pv i (cntI pv (l.take j) i) (l.getD j ([], [])) := foldl_at ([], []) h
theorem countsF_at (pv : List Str) {l : List Pr} {j : Nat} (h : j < l.length) : countsF pv (l.take (j + 1)) = (countsF pv (l.take j)).set (placeF pv (l.getD j ([], [])).1) (addC ((countsF pv (l.take j)).getD (placeF pv (l.getD j ([], [])).1) cnt0) ([], 1, w64 (((l.getD j ([], [])).1.length : Nat) + ((l.getD j ([], [])).2.length : Nat)))) := by
  have hp := placeF_le pv (l.getD j ([], [])).1
  rw [countsF_get _ _ hp]
  generalize hk : placeF pv (l.getD j ([], [])).1 = k at *
  apply List.ext_getElem?
  intro i
  rw [List.getElem?_set, countsF_len]
  by_cases hi : i < pv.length + 1
  · have e1 : ∀ l' : List Pr, (countsF pv l')[i]? = some (loAt pv i, (cntI pv l' i).1, (cntI pv l' i).2) := fun l' => by
      rw [countsF, List.getElem?_map, List.getElem?_range hi]; rfl
    rw [e1, e1, cntI_at pv h i, stepC, hk]
    by_cases hki : k = i
    · subst hki; rw [if_pos rfl, if_pos rfl, if_pos (by omega)]; rfl
    · rw [if_neg hki, if_neg hki]
  · rw [List.getElem?_eq_none (by rw [countsF_len]; omega), List.getElem?_eq_none (by rw [countsF_len]; omega)]
    split
    · omega
    · rfl
def sCounts : PSpec := ⟨[.d StrsT, .d (.slice PairT)], [⟨false, [.d CntsT]⟩], fun x => List.length x.1 ≤ 100000 ∧ List.length x.2.1 ≤ 100000, fun x => ((countsF x.1 x.2.1, ()), ())⟩
def sCountsR : PSpec := sCounts
theorem countsF_nil (pv : List Str) : countsF pv [] = (List.range (pv.length + 1)).map fun i => (loAt pv i, (0 : Int), (0 : Int)) := rfl
def losN (pv : List Str) (i : Nat) : List Cnt := (List.range (i + 1)).map fun i => (loAt pv i, (0 : Int), (0 : Int))
theorem losN_len (pv : List Str) (i : Nat) : (losN pv i).length = i + 1 := by rw [losN, List.length_map, List.length_range]
theorem losN_at (pv : List Str) (i : Nat) : losN pv (i + 1) = losN pv i ++ [(pv.getD i [], 0, 0)] := by
  rw [losN, List.range_succ, List.map_append]; rfl
theorem fCounts : FnOk Try.prog 26 := ⟨_, Try.func26, by decide, rfl⟩
theorem pCounts : PSound Try.prog 26 sCounts := by
  refine psound (T := tab) (S := (spOf [(19, sPlace33.spec (lsOf [])), (54, sAddC.spec (lsOf [])), (55, sTotal.spec (lsOf []))])) (keep := k26) (by kernel_rfl) tabOk (spCons (pOk pPlace33 fPlace33 (by decide) lsNil) (spCons (pOk pAddC fAddC (by decide) lsNil) (spCons (pOk pTotal fTotal (by decide) lsNil) spNil))) (by kernel_rfl) Try.func26 (by kernel_rfl) (by decide) fun xs hg hp => ?_
  obtain ⟨pv, l, ⟨⟩⟩ := xs
  change List Str at pv
  change List Pr at l
  change pv.length ≤ 100000 ∧ l.length ≤ 100000 at hp
  obtain ⟨hp1, hp2⟩ := hp
  clear hg
  show vfun tab _ k26 Try.f26 [.sl .str pv, .sl PairT l] [] _
  refine Ev.out ?_
  repeat' (first | ((with_reducible refine Ev.mk ?_); conv => whnf) | (with_reducible refine And.intro ?_ ?_) | (intro h))
  all_goals (try simp only [decide_eq_true_eq, decide_eq_false_iff_not, beq_iff_eq, bne_iff_ne, beq_eq_false_iff_ne, bne_eq_false_iff_eq, Int.toNat_natCast, ge_iff_le, gt_iff_lt, Bool.not_eq_true', Bool.not_eq_false', Int.not_lt, Int.not_le, ne_eq] at *)
  all_goals (try dsimp only [Ty.den, Ty.dflt, StrsT, PairT, CntT] at *)
  all_goals (try simp only [eq4, ne4, eq3, ne3, eq2, ne2, Prod.eta, List.length_cons, List.length_nil, List.length_append, Nat.zero_add] at *)
  all_goals (try simp (disch := omega) only [wrap64] at *)
  all_goals try first | exact leafDraw (by kernel_rfl) | exact Leaf.mk trivial | (refine Leaf.mk ?_; omega) | (refine Leaf.mk ?_; unfold maxLen; omega)
  refine LoopVC.on (fun i : Nat => [(15, .i .i64 i)]) (fun i => [(0, .arr 49 CntT (losN pv i))]) (fun i => i ≤ pv.length) (fun i => pv.length - i) 0 rfl (by omega) ?_
  intro i hi
  have hll := losN_len pv i
  repeat' (first | ((with_reducible refine Ev.mk ?_); conv => whnf) | (with_reducible refine And.intro ?_ ?_) | (intro h))
  all_goals (try simp only [decide_eq_true_eq, decide_eq_false_iff_not, beq_iff_eq, bne_iff_ne, beq_eq_false_iff_ne, bne_eq_false_iff_eq, Int.toNat_natCast, ge_iff_le, gt_iff_lt, Bool.not_eq_true', Bool.not_eq_false', Int.not_lt, Int.not_le, ne_eq] at *)
  all_goals (try dsimp only [Ty.den, Ty.dflt, StrsT, PairT, CntT] at *)
  all_goals (try simp only [eq4, ne4, eq3, ne3, eq2, ne2, Prod.eta, List.length_cons, List.length_nil, List.length_append, Nat.zero_add] at *)
  all_goals (try simp (disch := omega) only [wrap64] at *)
  all_goals try first | exact leafDraw (by kernel_rfl) | exact Leaf.mk trivial | (refine Leaf.mk ?_; omega) | (refine Leaf.mk ?_; unfold maxLen; omega)
  rotate_right
  · obtain rfl : i = pv.length := by omega
    have hz : losN pv pv.length = countsF pv (l.take 0) := by rw [List.take_zero, countsF_nil]; rfl
    rw [hz]
    clear hz hll
    refine LoopVC.on (fun j : Nat => [(27, .i .i64 j)]) (fun j => [(0, .arr 49 CntT (countsF pv (l.take j)))]) (fun j => j ≤ l.length) (fun j => l.length - j) 0 rfl (by omega) ?_
    intro j hj
    have hcl := countsF_len pv (l.take j)
    have hat := fun h => countsF_at pv (l := l) (j := j) h
    have hpl := placeF_le pv (l.getD j ([], [])).1
    repeat' (first | ((with_reducible refine Ev.mk ?_); conv => whnf) | (with_reducible refine And.intro ?_ ?_) | (intro h))
    all_goals (try simp only [decide_eq_true_eq, decide_eq_false_iff_not, beq_iff_eq, bne_iff_ne, beq_eq_false_iff_ne, bne_eq_false_iff_eq, Int.toNat_natCast, ge_iff_le, gt_iff_lt, Bool.not_eq_true', Bool.not_eq_false', Int.not_lt, Int.not_le, ne_eq] at *)
    all_goals (try dsimp only [Ty.den, Ty.dflt, StrsT, PairT, CntT] at *)
    all_goals (try simp only [eq4, ne4, eq3, ne3, eq2, ne2, Prod.eta, List.length_cons, List.length_nil, List.length_append, Nat.zero_add] at *)
    all_goals (try simp (disch := omega) only [wrap64] at *)
    all_goals try first | exact leafDraw (by kernel_rfl) | exact Leaf.mk trivial | (refine Leaf.mk ?_; omega) | (refine Leaf.mk ?_; unfold maxLen; omega)
    all_goals try rw [show (sPlace33.fn (pv, (l.getD j ([], [])).1, ())).1.1 = ((placeF pv (l.getD j ([], [])).1 : Nat) : Int) from rfl, Int.toNat_natCast]
    all_goals try rw [show (sPlace33.fn (pv, (l.getD j ([], [])).1, ())).1.1 = ((placeF pv (l.getD j ([], [])).1 : Nat) : Int) from rfl]
    all_goals first
      | (refine Leaf.mk ?_; omega)
      | (refine Leaf.mk ⟨j + 1, ?_, by omega, by omega⟩
         rw [hat (by omega), ← totF_two]; rfl)
      | (refine Leaf.mk (ret1 (show _ = countsF pv l from ?_))
         rw [take_all (by omega)])
  all_goals first
    | (refine Leaf.mk ?_; omega)
    | (refine Leaf.mk ?_; unfold maxLen; omega)
    | (refine Leaf.mk ⟨i + 1, ?_, by omega, by omega⟩
       rw [losN_at]; rfl)
theorem fCountsR : FnOk Try.prog 27 := ⟨_, Try.func27, by decide, rfl⟩
theorem pCountsR : PSound Try.prog 27 sCountsR := by
  refine psound (T := tab) (S := (spOf [(20, sPlace33R.spec (lsOf []))])) (keep := k27) (by kernel_rfl) tabOk (spCons (pOk pPlace33R fPlace33R (by decide) lsNil) spNil) (by kernel_rfl) Try.func27 (by kernel_rfl) (by decide) fun xs hg hp => ?_
  obtain ⟨pv, l, ⟨⟩⟩ := xs
  change List Str at pv
  change List Pr at l
  change pv.length ≤ 100000 ∧ l.length ≤ 100000 at hp
  obtain ⟨hp1, hp2⟩ := hp
  clear hg
  show vfun tab _ k27 Try.f27 [.sl .str pv, .sl PairT l] [] _
  refine Ev.out ?_
  repeat' (first | ((with_reducible refine Ev.mk ?_); conv => whnf) | (with_reducible refine And.intro ?_ ?_) | (intro h))
  all_goals (try simp only [decide_eq_true_eq, decide_eq_false_iff_not, beq_iff_eq, bne_iff_ne, beq_eq_false_iff_ne, bne_eq_false_iff_eq, Int.toNat_natCast, ge_iff_le, gt_iff_lt, Bool.not_eq_true', Bool.not_eq_false', Int.not_lt, Int.not_le, ne_eq] at *)
  all_goals (try dsimp only [Ty.den, Ty.dflt, StrsT, PairT, CntT] at *)
  all_goals (try simp only [eq4, ne4, eq3, ne3, eq2, ne2, Prod.eta, List.length_cons, List.length_nil, List.length_append, Nat.zero_add] at *)
  all_goals (try simp (disch := omega) only [wrap64] at *)
  all_goals try first | exact leafDraw (by kernel_rfl) | exact Leaf.mk trivial | (refine Leaf.mk ?_; omega) | (refine Leaf.mk ?_; unfold maxLen; omega)
  refine LoopVC.weak [(.slot 5, .nil 83 CntT)] (fun i : Nat => [(6, .i .i64 i)]) (fun i => [(0, .arr 83 CntT ((countsF pv l).take i))]) (fun i => i ≤ pv.length + 1) (fun i => pv.length + 1 - i) 0 (Ev.mk ?_)
  (conv => whnf)
  refine ⟨Leaf.mk rfl, Leaf.mk ?_, ?_⟩
  · omega
  intro i hi
  have hcl := countsF_len pv l
  have htl : ((countsF pv l).take i).length ≤ i := by rw [List.length_take]; omega
  repeat' (first | ((with_reducible refine Ev.mk ?_); conv => whnf) | (with_reducible refine And.intro ?_ ?_) | (intro h))
  all_goals (try simp only [decide_eq_true_eq, decide_eq_false_iff_not, beq_iff_eq, bne_iff_ne, beq_eq_false_iff_ne, bne_eq_false_iff_eq, Int.toNat_natCast, ge_iff_le, gt_iff_lt, Bool.not_eq_true', Bool.not_eq_false', Int.not_lt, Int.not_le, ne_eq] at *)
  all_goals (try dsimp only [Ty.den, Ty.dflt, StrsT, PairT, CntT] at *)
  all_goals (try simp only [eq4, ne4, eq3, ne3, eq2, ne2, Prod.eta, List.length_cons, List.length_nil, List.length_append, Nat.zero_add] at *)
  all_goals (try simp (disch := omega) only [wrap64] at *)
  all_goals try first | exact leafDraw (by kernel_rfl) | exact Leaf.mk trivial | (refine Leaf.mk ?_; omega) | (refine Leaf.mk ?_; unfold maxLen; omega)
  rotate_right
  · refine Leaf.mk (ret1 (show _ = countsF pv l from ?_))
    rw [take_all (by omega)]
  · have hlo : loAt pv i = pv.getD (i - 1) [] := (if_neg (by omega))
    try rw [show ((i : Int) - 1).toNat = i - 1 by omega]
    refine LoopVC.on (fun j : Nat => [(8, .i .i64 j)]) (fun j => [(1, .box [.s (pv.getD (i - 1) []), .i .i64 (cntI pv (l.take j) i).1, .i .i64 (cntI pv (l.take j) i).2])]) (fun j => j ≤ l.length) (fun j => l.length - j) 0 rfl (by omega) ?_
    intro j hj
    have hat := fun h => cntI_at pv (l := l) (j := j) h i
    repeat' (first | ((with_reducible refine Ev.mk ?_); conv => whnf) | (with_reducible refine And.intro ?_ ?_) | (intro h))
    all_goals (try simp only [decide_eq_true_eq, decide_eq_false_iff_not, beq_iff_eq, bne_iff_ne, beq_eq_false_iff_ne, bne_eq_false_iff_eq, Int.toNat_natCast, ge_iff_le, gt_iff_lt, Bool.not_eq_true', Bool.not_eq_false', Int.not_lt, Int.not_le, ne_eq] at *)
    all_goals (try dsimp only [Ty.den, Ty.dflt, StrsT, PairT, CntT] at *)
    all_goals (try simp only [eq4, ne4, eq3, ne3, eq2, ne2, Prod.eta, List.length_cons, List.length_nil, List.length_append, Nat.zero_add] at *)
    all_goals (try simp (disch := omega) only [wrap64] at *)
    all_goals try first | exact leafDraw (by kernel_rfl) | exact Leaf.mk trivial | (refine Leaf.mk ?_; omega) | (refine Leaf.mk ?_; unfold maxLen; omega)
    all_goals try rw [show (sPlace33R.fn (pv, (l.getD j ([], [])).1, ())).1.1 = ((placeF pv (l.getD j ([], [])).1 : Nat) : Int) from rfl] at *
    all_goals first
      | (refine Leaf.mk ?_; omega)
      | (refine Leaf.mk ?_; unfold maxLen; omega)
      | (refine Leaf.mk ⟨j + 1, ?_, by omega, by omega⟩
         first
         | (rw [hat (by omega), stepC, if_pos (by omega)]; rfl)
         | (rw [hat (by omega), stepC, if_neg (by omega)]; rfl))
      | (refine Leaf.mk ⟨i + 1, ?_, by omega, by omega⟩
         rw [take_at cnt0 (by omega), countsF_get pv l (by omega), hlo, show l.take j = l from take_all (by omega)]; rfl)
  · have hlo : loAt pv i = [] := (if_pos (by omega))
    try rw [show ((i : Int) - 1).toNat = i - 1 by omega]
    refine LoopVC.on (fun j : Nat => [(8, .i .i64 j)]) (fun j => [(1, .box [.s ([]), .i .i64 (cntI pv (l.take j) i).1, .i .i64 (cntI pv (l.take j) i).2])]) (fun j => j ≤ l.length) (fun j => l.length - j) 0 rfl (by omega) ?_
    intro j hj
    have hat := fun h => cntI_at pv (l := l) (j := j) h i
    repeat' (first | ((with_reducible refine Ev.mk ?_); conv => whnf) | (with_reducible refine And.intro ?_ ?_) | (intro h))
    all_goals (try simp only [decide_eq_true_eq, decide_eq_false_iff_not, beq_iff_eq, bne_iff_ne, beq_eq_false_iff_ne, bne_eq_false_iff_eq, Int.toNat_natCast, ge_iff_le, gt_iff_lt, Bool.not_eq_true', Bool.not_eq_false', Int.not_lt, Int.not_le, ne_eq] at *)
    all_goals (try dsimp only [Ty.den, Ty.dflt, StrsT, PairT, CntT] at *)
    all_goals (try simp only [eq4, ne4, eq3, ne3, eq2, ne2, Prod.eta, List.length_cons, List.length_nil, List.length_append, Nat.zero_add] at *)
    all_goals (try simp (disch := omega) only [wrap64] at *)
    all_goals try first | exact leafDraw (by kernel_rfl) | exact Leaf.mk trivial | (refine Leaf.mk ?_; omega) | (refine Leaf.mk ?_; unfold maxLen; omega)
    all_goals try rw [show (sPlace33R.fn (pv, (l.getD j ([], [])).1, ())).1.1 = ((placeF pv (l.getD j ([], [])).1 : Nat) : Int) from rfl] at *
    all_goals first
      | (refine Leaf.mk ?_; omega)
      | (refine Leaf.mk ?_; unfold maxLen; omega)
      | (refine Leaf.mk ⟨j + 1, ?_, by omega, by omega⟩
         first
         | (rw [hat (by omega), stepC, if_pos (by omega)]; rfl)
         | (rw [hat (by omega), stepC, if_neg (by omega)]; rfl))
      | (refine Leaf.mk ⟨i + 1, ?_, by omega, by omega⟩
         rw [take_at cnt0 (by omega), countsF_get pv l (by omega), hlo, show l.take j = l from take_all (by omega)]; rfl)
end Go.Proofs.Ytcgfolhnoggjfaa
