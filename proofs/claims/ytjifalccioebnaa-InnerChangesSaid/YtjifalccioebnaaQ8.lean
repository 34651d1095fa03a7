import Derived.Test.YtjifalccioebnaaQ7
import Derived.Test.YtjifalccioebnaaEng4
/- Texts, one behind the other. -/
set_option linter.unusedVariables false
set_option linter.unusedSimpArgs false
set_option maxRecDepth 8000
set_option maxHeartbeats 4000000
namespace Go.Proofs.Ytjifalccioebnaa
open Go.Eng
theorem sleN (x b : List UInt8) : (sless x b || x == b) = !sless b x := by
  cases h : sless b x with
  | true =>
    have h1 := sless_iff.1 h
    have h2 : sless x b = false := by rw [sless_eq]; exact decide_eq_false (slt_asymm h1)
    have h3 : ¬ x = b := fun hc => by rw [hc] at h1; exact slt_irrefl _ h1
    simp [h2, h3]
  | false =>
    by_cases h1 : x < b
    · simp [sless_iff.2 h1]
    · have : x = b := slt_total h1 (fun hc => by rw [sless_iff.2 hc] at h; cases h)
      simp [this]
def bigT (p : List UInt8) : Bool := decide (((p.length : Nat) : Int) > 16)
def outK (k : Int) : Bool := decide (k < 0) || decide (k > 1099511627776)
def lBig : LSpec := ⟨.str, .bool, [], fun v _ => bigT v⟩
theorem fBig : FnOk Try.prog 81 := ⟨_, Try.func81, by decide, rfl⟩
theorem pBig : PSound Try.prog 81 lBig.p := by
  refine psound (T := tab) (S := (spOf [])) (keep := k81) (by kernel_rfl) tabOk spNil (by kernel_rfl) Try.func81 (by kernel_rfl) (by decide) fun xs hg hp => ?_
  obtain ⟨p, ⟨⟩⟩ := xs
  show vfun tab _ k81 Try.f81 [.s p] [] _
  refine Ev.out ?_
  repeat' (first | ((with_reducible refine Ev.mk ?_); conv => whnf) | (with_reducible refine And.intro ?_ ?_) | (intro h))
  exact Leaf.mk rfl
def lOutK : LSpec := ⟨.int .i64, .bool, [], fun v _ => outK v⟩
theorem fOutK : FnOk Try.prog 59 := ⟨_, Try.func59, by decide, rfl⟩
theorem pOutK : PSound Try.prog 59 lOutK.p := by
  refine psound (T := tab) (S := (spOf [])) (keep := k59) (by kernel_rfl) tabOk spNil (by kernel_rfl) Try.func59 (by kernel_rfl) (by decide) fun xs hg hp => ?_
  obtain ⟨k, ⟨⟩⟩ := xs
  change Int at k
  show vfun tab _ k59 Try.f59 [.i .i64 k] [] _
  refine Ev.out ?_
  repeat' (first | ((with_reducible refine Ev.mk ?_); conv => whnf) | (with_reducible refine And.intro ?_ ?_) | (intro h))
  · refine Leaf.mk (ret1 (show true = outK k from ?_))
    rw [outK, show decide (k < 0) = true from ‹_›]; rfl
  · refine Leaf.mk (ret1 (show decide (k > 1099511627776) = outK k from ?_))
    rw [outK, show decide (k < 0) = false from ‹_›]; rfl
abbrev S8 : Type := List UInt8
abbrev I64T : Ty := .int .i64
def sIndexFuncS : PSpec := ⟨[.d (.slice .str), .lam .str .bool], [⟨false, [.d (.int .i64)]⟩], fun _ => True, fun x => ((idxF x.2.1 x.1 0, ()), ())⟩
theorem fIndexFuncS : FnOk Try.prog 92 := ⟨_, Try.func92, by decide, rfl⟩
theorem pIndexFuncS : PSound Try.prog 92 sIndexFuncS := by
  refine psound (T := tab) (S := (spOf [])) (keep := k92) (by kernel_rfl) tabOk spNil (by kernel_rfl) Try.func92 (by kernel_rfl) (by decide) fun xs hg hp => ?_
  obtain ⟨xs, p, ⟨⟩⟩ := xs
  obtain ⟨⟨hl, -⟩, -⟩ := hg
  change List S8 at xs
  change S8 → Bool at p
  have hl := len63 hl
  clear hp
  show vfun tab _ k92 Try.f92 [.sl .str xs, .lam .str .bool p] [] _
  refine Ev.out ?_
  repeat' (first | ((with_reducible refine Ev.mk ?_); conv => whnf) | (with_reducible refine And.intro ?_ ?_) | (intro h))
  refine LoopVC.on (fun i : Nat => [(8, .i .i64 i)]) (fun _ => []) (fun i => i ≤ xs.length ∧ idxF p xs 0 = idxF p (xs.drop i) i) (fun i => xs.length - i) 0 rfl ⟨by omega, by simp⟩ ?_
  intro i ⟨hi, he⟩
  repeat' (first | ((with_reducible refine Ev.mk ?_); conv => whnf) | (with_reducible refine And.intro ?_ ?_) | (intro h))
  all_goals (try simp only [decide_eq_true_eq, decide_eq_false_iff_not, beq_iff_eq, bne_iff_ne, beq_eq_false_iff_ne, bne_eq_false_iff_eq, Int.toNat_natCast, ge_iff_le, gt_iff_lt, Bool.not_eq_true', Bool.not_eq_false', Int.not_lt, Int.not_le, ne_eq] at *)
  all_goals (try dsimp only [Ty.den, Ty.dflt, .str] at *)
  all_goals (try simp only [eq4, ne4, eq3, ne3, eq2, ne2, Prod.eta, List.length_cons, List.length_nil, List.length_append, Nat.zero_add] at *)
  all_goals (try simp (disch := omega) only [wrap64] at *)
  all_goals try first | exact leafDraw (by kernel_rfl) | exact Leaf.mk trivial | (refine Leaf.mk ?_; omega) | (refine Leaf.mk ?_; unfold maxLen; omega)
  all_goals first
    | (rw [drop_end (by omega)] at he; exact Leaf.mk (ret1 he.symm))
    | (rw [drop_at [] (by omega), idxF, if_pos (by assumption)] at he; exact Leaf.mk (ret1 he.symm))
    | (rw [drop_at [] (by omega), idxF, if_neg (by simp_all)] at he; exact Leaf.mk ⟨i + 1, rfl, ⟨by omega, he⟩, by omega⟩)
def sContainsFuncS : PSpec := ⟨[.d (.slice .str), .lam .str .bool], [⟨false, [.d .bool]⟩], fun _ => True, fun x => ((List.any x.1 x.2.1, ()), ())⟩
theorem fContainsFuncS : FnOk Try.prog 80 := ⟨_, Try.func80, by decide, rfl⟩
theorem pContainsFuncS : PSound Try.prog 80 sContainsFuncS := by
  refine psound (T := tab) (S := (spOf [(92, sIndexFuncS.spec (lsOf []))])) (keep := k80) (by kernel_rfl) tabOk (spCons (pOk pIndexFuncS fIndexFuncS (by decide) lsNil) spNil) (by kernel_rfl) Try.func80 (by kernel_rfl) (by decide) fun xs hg hp => ?_
  obtain ⟨xs, p, ⟨⟩⟩ := xs
  change List S8 at xs
  change S8 → Bool at p
  show vfun tab _ k80 Try.f80 [.sl .str xs, .lam .str .bool p] [] _
  refine Ev.out ?_
  repeat' (first | ((with_reducible refine Ev.mk ?_); conv => whnf) | (with_reducible refine And.intro ?_ ?_) | (intro h))
  · exact Leaf.mk trivial
  · exact Leaf.mk (ret1 (idxF_any xs 0))
def sIndexFuncI : PSpec := ⟨[.d (.slice I64T), .lam I64T .bool], [⟨false, [.d (.int .i64)]⟩], fun _ => True, fun x => ((idxF x.2.1 x.1 0, ()), ())⟩
theorem fIndexFuncI : FnOk Try.prog 82 := ⟨_, Try.func82, by decide, rfl⟩
theorem pIndexFuncI : PSound Try.prog 82 sIndexFuncI := by
  refine psound (T := tab) (S := (spOf [])) (keep := k82) (by kernel_rfl) tabOk spNil (by kernel_rfl) Try.func82 (by kernel_rfl) (by decide) fun xs hg hp => ?_
  obtain ⟨xs, p, ⟨⟩⟩ := xs
  obtain ⟨⟨hl, -⟩, -⟩ := hg
  change List Int at xs
  change Int → Bool at p
  have hl := len63 hl
  clear hp
  show vfun tab _ k82 Try.f82 [.sl I64T xs, .lam I64T .bool p] [] _
  refine Ev.out ?_
  repeat' (first | ((with_reducible refine Ev.mk ?_); conv => whnf) | (with_reducible refine And.intro ?_ ?_) | (intro h))
  refine LoopVC.on (fun i : Nat => [(8, .i .i64 i)]) (fun _ => []) (fun i => i ≤ xs.length ∧ idxF p xs 0 = idxF p (xs.drop i) i) (fun i => xs.length - i) 0 rfl ⟨by omega, by simp⟩ ?_
  intro i ⟨hi, he⟩
  repeat' (first | ((with_reducible refine Ev.mk ?_); conv => whnf) | (with_reducible refine And.intro ?_ ?_) | (intro h))
  all_goals (try simp only [decide_eq_true_eq, decide_eq_false_iff_not, beq_iff_eq, bne_iff_ne, beq_eq_false_iff_ne, bne_eq_false_iff_eq, Int.toNat_natCast, ge_iff_le, gt_iff_lt, Bool.not_eq_true', Bool.not_eq_false', Int.not_lt, Int.not_le, ne_eq] at *)
  all_goals (try dsimp only [Ty.den, Ty.dflt, I64T] at *)
  all_goals (try simp only [eq4, ne4, eq3, ne3, eq2, ne2, Prod.eta, List.length_cons, List.length_nil, List.length_append, Nat.zero_add] at *)
  all_goals (try simp (disch := omega) only [wrap64] at *)
  all_goals try first | exact leafDraw (by kernel_rfl) | exact Leaf.mk trivial | (refine Leaf.mk ?_; omega) | (refine Leaf.mk ?_; unfold maxLen; omega)
  all_goals first
    | (rw [drop_end (by omega)] at he; exact Leaf.mk (ret1 he.symm))
    | (rw [drop_at 0 (by omega), idxF, if_pos (by assumption)] at he; exact Leaf.mk (ret1 he.symm))
    | (rw [drop_at 0 (by omega), idxF, if_neg (by simp_all)] at he; exact Leaf.mk ⟨i + 1, rfl, ⟨by omega, he⟩, by omega⟩)
def sContainsFuncI : PSpec := ⟨[.d (.slice I64T), .lam I64T .bool], [⟨false, [.d .bool]⟩], fun _ => True, fun x => ((List.any x.1 x.2.1, ()), ())⟩
theorem fContainsFuncI : FnOk Try.prog 58 := ⟨_, Try.func58, by decide, rfl⟩
theorem pContainsFuncI : PSound Try.prog 58 sContainsFuncI := by
  refine psound (T := tab) (S := (spOf [(82, sIndexFuncI.spec (lsOf []))])) (keep := k58) (by kernel_rfl) tabOk (spCons (pOk pIndexFuncI fIndexFuncI (by decide) lsNil) spNil) (by kernel_rfl) Try.func58 (by kernel_rfl) (by decide) fun xs hg hp => ?_
  obtain ⟨xs, p, ⟨⟩⟩ := xs
  change List Int at xs
  change Int → Bool at p
  show vfun tab _ k58 Try.f58 [.sl I64T xs, .lam I64T .bool p] [] _
  refine Ev.out ?_
  repeat' (first | ((with_reducible refine Ev.mk ?_); conv => whnf) | (with_reducible refine And.intro ?_ ?_) | (intro h))
  · exact Leaf.mk trivial
  · exact Leaf.mk (ret1 (idxF_any xs 0))
def lastI (ps : List (List UInt8)) (i : Nat) : List UInt8 := if i = 0 then [] else ps.getD (i - 1) []
def UpT (ps : List (List UInt8)) (n : Nat) : Prop := ∀ j, j < n → sless (lastI ps j) (ps.getD j []) = true
instance (l : List (List UInt8)) (n : Nat) : Decidable (UpT l n) := by unfold UpT; infer_instance
theorem upT_step {l : List (List UInt8)} {i : Nat} (h : UpT l i) (h1 : sless (lastI l i) (l.getD i []) = true) : UpT l (i + 1) := fun j hj => by
  rcases Nat.lt_or_ge j i with hji | hji
  · exact h j hji
  · obtain rfl : j = i := by omega
    exact h1
theorem upT_not {l : List (List UInt8)} {i : Nat} (hl : i < l.length) (h : sless (lastI l i) (l.getD i []) = false) : ¬ UpT l l.length := fun hc => by
  have := hc i hl
  rw [h] at this; exact absurd this (by simp)
def pivE (ps : List (List UInt8)) : Int := if ps.any bigT = true then 5 else if UpT ps ps.length then 0 else 12
def sPivE : PSpec := ⟨[.d TsT], [⟨false, [.d (.int .i64)]⟩], fun _ => True, fun x => ((pivE x.1, ()), ())⟩
theorem fPivE : FnOk Try.prog 57 := ⟨_, Try.func57, by decide, rfl⟩
theorem pPivE : PSound Try.prog 57 sPivE := by
  refine psound (T := tab) (S := (spOf [(80, sContainsFuncS.spec (lsOf [(81, lBig)]))])) (keep := k57) (by kernel_rfl) tabOk (spCons (pOk pContainsFuncS fContainsFuncS (by decide) ((lsCons ⟨pBig, fBig⟩ lsNil))) spNil) (by kernel_rfl) Try.func57 (by kernel_rfl) (by decide) fun xs hg hp => ?_
  obtain ⟨ps, ⟨⟩⟩ := xs
  obtain ⟨⟨hl, -⟩, -⟩ := hg
  change List (List UInt8) at ps
  have hl := len63 hl
  clear hp
  show vfun tab _ k57 Try.f57 [.sl .str ps] [] _
  refine Ev.out ?_
  repeat' (first | ((with_reducible refine Ev.mk ?_); conv => whnf) | (with_reducible refine And.intro ?_ ?_) | (intro h))
  all_goals (try simp only [decide_eq_true_eq, decide_eq_false_iff_not, beq_iff_eq, bne_iff_ne, beq_eq_false_iff_ne, bne_eq_false_iff_eq, Int.toNat_natCast, ge_iff_le, gt_iff_lt, Bool.not_eq_true', Bool.not_eq_false', Int.not_lt, Int.not_le, ne_eq] at *)
  all_goals (try dsimp only [Ty.den, Ty.dflt, TsT, sContainsFuncS] at *)
  all_goals (try simp only [eq4, ne4, eq3, ne3, eq2, ne2, Prod.eta, List.length_cons, List.length_nil, List.length_append, Nat.zero_add] at *)
  all_goals (try simp (disch := omega) only [wrap64] at *)
  all_goals try first
    | exact Leaf.mk trivial
    | (refine Leaf.mk (ret1 (show (5 : Int) = pivE ps from ?_))
       rw [pivE, if_pos (show ps.any bigT = true from ‹_›)])
  have hany : ¬ ps.any bigT = true := by rw [show ps.any bigT = false from ‹_›]; simp
  refine LoopVC.on (fun i : Nat => [(3, .s (lastI ps i)), (10, .i .i64 i)]) (fun _ => []) (fun i => i ≤ ps.length ∧ UpT ps i) (fun i => ps.length - i) 0 rfl ⟨by omega, fun j hj => by omega⟩ ?_
  intro i ⟨hi, hu⟩
  repeat' (first | ((with_reducible refine Ev.mk ?_); conv => whnf) | (with_reducible refine And.intro ?_ ?_) | (intro h))
  all_goals (try simp only [sleN] at *)
  all_goals (try simp only [decide_eq_true_eq, decide_eq_false_iff_not, beq_iff_eq, bne_iff_ne, beq_eq_false_iff_ne, bne_eq_false_iff_eq, Int.toNat_natCast, ge_iff_le, gt_iff_lt, Bool.not_eq_true', Bool.not_eq_false', Int.not_lt, Int.not_le, ne_eq] at *)
  all_goals (try dsimp only [Ty.den, Ty.dflt, TsT] at *)
  all_goals (try simp only [eq4, ne4, eq3, ne3, eq2, ne2, Prod.eta, List.length_cons, List.length_nil, List.length_append, Nat.zero_add] at *)
  all_goals (try simp (disch := omega) only [wrap64] at *)
  all_goals try first | exact leafDraw (by kernel_rfl) | exact Leaf.mk trivial | (refine Leaf.mk ?_; omega) | (refine Leaf.mk ?_; unfold maxLen; omega)
  · refine Leaf.mk (ret1 (show (12 : Int) = pivE ps from ?_))
    rw [pivE, if_neg hany, if_neg (upT_not (by omega) h)]
  · exact Leaf.mk ⟨i + 1, rfl, ⟨by omega, upT_step hu h⟩, by omega⟩
  · refine Leaf.mk (ret1 (show (0 : Int) = pivE ps from ?_))
    rw [pivE, if_neg hany, if_pos (by rw [show ps.length = i by omega]; exact hu)]
def fnz : List Int → Int
  | [] => 0
  | e :: r => if e = 0 then fnz r else e
theorem fnz_at {α : Type} {f : α → Int} {l : List α} {i : Nat} (d : α) (h : i < l.length) : fnz ((l.drop i).map f) = if f (l.getD i d) = 0 then fnz ((l.drop (i + 1)).map f) else f (l.getD i d) := by
  rw [drop_at d h, List.map_cons, fnz]
def ew (n : Inn) (i : Int) (m : Msg) : Int := if mcheck m = 0 then (if m.1 = 0 ∧ ¬ ((routeI n.1 m.2.1 : Nat) : Int) = i then 12 else 0) else mcheck m
theorem ew_eq (n : Inn) (i : Int) (m : Msg) : ew n i m = if mcheck m = 0 then (if m.1 = 0 ∧ ¬ ((routeI n.1 m.2.1 : Nat) : Int) = i then 12 else 0) else mcheck m := rfl
def waitsI (n : Inn) (i : Nat) : Int := fnz ((n.2.2.getD i []).map (ew n i))
def sWaits : PSpec := ⟨[.d InT, .d (.int .i64)], [⟨false, [.d (.int .i64)]⟩], fun x => 0 ≤ x.2.1 ∧ x.2.1 < ((List.length x.1.2.2 : Nat) : Int) ∧ List.length x.1.2.2 ≤ 1000, fun x => ((waitsI x.1 x.2.1.toNat, ()), ())⟩
theorem fWaits : FnOk Try.prog 60 := ⟨_, Try.func60, by decide, rfl⟩
theorem pWaits : PSound Try.prog 60 sWaits := by
  refine psound (T := tab) (S := (spOf [(37, sMCheck.spec (lsOf [])), (28, sRoute.spec (lsOf []))])) (keep := k60) (by kernel_rfl) tabOk (spCons (pOk pMCheck fMCheck (by decide) lsNil) (spCons (pOk pRoute fRoute (by decide) lsNil) spNil)) (by kernel_rfl) Try.func60 (by kernel_rfl) (by decide) fun xs hg hp => ?_
  obtain ⟨⟨ps, ks, bs⟩, i, ⟨⟩⟩ := xs
  obtain ⟨⟨-, -, ⟨-, hgb⟩⟩, -⟩ := hg
  change List (List UInt8) at ps
  change List Int at ks
  change List (List Msg) at bs
  change Int at i
  change 0 ≤ i ∧ i < (bs.length : Int) ∧ bs.length ≤ 1000 at hp
  obtain ⟨i, rfl⟩ := Int.eq_ofNat_of_zero_le hp.1
  have hbl : (bs.getD i []).length ≤ 9223372036854775807 := len63 (hgb _ (getD_mem (xs := bs) [] (by omega))).1
  clear hgb
  show vfun tab _ k60 Try.f60 [.agg [.sl .str ps, .sl (.int .i64) ks, .sl (.slice MsgT) bs], .i .i64 i] [] _
  refine Ev.out ?_
  repeat' (first | ((with_reducible refine Ev.mk ?_); conv => whnf) | (with_reducible refine And.intro ?_ ?_) | (intro h))
  all_goals (try simp only [decide_eq_true_eq, decide_eq_false_iff_not, beq_iff_eq, bne_iff_ne, beq_eq_false_iff_ne, bne_eq_false_iff_eq, Int.toNat_natCast, ge_iff_le, gt_iff_lt, Bool.not_eq_true', Bool.not_eq_false', Int.not_lt, Int.not_le, ne_eq] at *)
  all_goals (try dsimp only [Ty.den, Ty.dflt, InT] at *)
  all_goals (try simp only [eq4, ne4, eq3, ne3, eq2, ne2, Prod.eta, List.length_cons, List.length_nil, List.length_append, Nat.zero_add] at *)
  all_goals (try simp (disch := omega) only [wrap64] at *)
  all_goals try first | exact leafDraw (by kernel_rfl) | exact Leaf.mk trivial | (refine Leaf.mk ?_; omega) | (refine Leaf.mk ?_; unfold maxLen; omega)
  refine LoopVC.on (fun j : Nat => [(14, .i .i64 j)]) (fun _ => []) (fun j => j ≤ (bs.getD i []).length ∧ waitsI (ps, ks, bs) i = fnz (((bs.getD i []).drop j).map (ew (ps, ks, bs) i))) (fun j => (bs.getD i []).length - j) 0 rfl ⟨by omega, rfl⟩ ?_
  intro j ⟨hj, he⟩
  repeat' (first | ((with_reducible refine Ev.mk ?_); conv => whnf) | (with_reducible refine And.intro ?_ ?_) | (intro h))
  all_goals (try simp only [decide_eq_true_eq, decide_eq_false_iff_not, beq_iff_eq, bne_iff_ne, beq_eq_false_iff_ne, bne_eq_false_iff_eq, Int.toNat_natCast, ge_iff_le, gt_iff_lt, Bool.not_eq_true', Bool.not_eq_false', Int.not_lt, Int.not_le, ne_eq] at *)
  all_goals (try dsimp only [Ty.den, Ty.dflt, InT, sMCheck, sRoute] at *)
  all_goals (try simp only [eq4, ne4, eq3, ne3, eq2, ne2, Prod.eta, List.length_cons, List.length_nil, List.length_append, Nat.zero_add] at *)
  all_goals (try simp (disch := omega) only [wrap64] at *)
  all_goals try first | exact leafDraw (by kernel_rfl) | exact Leaf.mk trivial | (refine Leaf.mk ?_; omega) | (refine Leaf.mk ?_; unfold maxLen; omega)
  all_goals
    have hat := fun h => fnz_at (f := ew (ps, ks, bs) i) (l := bs.getD i []) (i := j) msg0 h
    have hst : j < (bs.getD i []).length → ew (ps, ks, bs) i ((bs.getD i []).getD j msg0) = 0 → waitsI (ps, ks, bs) i = fnz (((bs.getD i []).drop (j + 1)).map (ew (ps, ks, bs) i)) := fun h h1 => by rw [he, hat h, if_pos h1]
    have hno : j < (bs.getD i []).length → ¬ ew (ps, ks, bs) i ((bs.getD i []).getD j msg0) = 0 → waitsI (ps, ks, bs) i = ew (ps, ks, bs) i ((bs.getD i []).getD j msg0) := fun h h1 => by rw [he, hat h, if_neg h1]
    have hew := ew_eq (ps, ks, bs) i ((bs.getD i []).getD j msg0)
    clear hat
  · rw [if_neg ‹¬ mcheck _ = 0›] at hew
    refine Leaf.mk (ret1 (show mcheck ((bs.getD i []).getD j msg0) = waitsI (ps, ks, bs) i from ?_))
    rw [hno (by omega) (by rw [hew]; assumption), hew]
  · rw [if_pos ‹mcheck _ = 0›, if_pos ⟨‹_›, ‹_›⟩] at hew
    refine Leaf.mk (ret1 (show (12 : Int) = waitsI (ps, ks, bs) i from ?_))
    rw [hno (by omega) (by omega), hew]
  · rw [if_pos ‹mcheck _ = 0›, if_neg (fun h => h.2 ‹_›)] at hew
    exact Leaf.mk ⟨j + 1, rfl, ⟨by omega, hst (by omega) hew⟩, by omega⟩
  · rw [if_pos ‹mcheck _ = 0›, if_neg (fun h => absurd h.1 ‹_›)] at hew
    exact Leaf.mk ⟨j + 1, rfl, ⟨by omega, hst (by omega) hew⟩, by omega⟩
  · rw [drop_end (by omega)] at he
    exact Leaf.mk (ret1 he.symm)
def waitE (n : Inn) : Int := fnz ((List.range n.2.2.length).map (waitsI n))
theorem range_getD {k i : Nat} (h : i < k) : (List.range k).getD i 0 = i := by simp [h]
def checkI (n : Inn) : Int := if wholeI n = false ∨ n.2.1.length < 2 ∨ 6 < n.2.1.length then 4 else if pivE n.1 = 0 then (if n.2.1.any outK = true then 9 else if waitE n = 0 then (if 1016 < sizeI n then 5 else 0) else waitE n) else pivE n.1
theorem checkI_form {n : Inn} (h : wholeI n = false ∨ n.2.1.length < 2 ∨ 6 < n.2.1.length) : checkI n = 4 := by rw [checkI, if_pos h]
theorem checkI_piv {n : Inn} (h : ¬ (wholeI n = false ∨ n.2.1.length < 2 ∨ 6 < n.2.1.length)) (h1 : ¬ pivE n.1 = 0) : checkI n = pivE n.1 := by rw [checkI, if_neg h, if_neg h1]
theorem checkI_kid {n : Inn} (h : ¬ (wholeI n = false ∨ n.2.1.length < 2 ∨ 6 < n.2.1.length)) (h1 : pivE n.1 = 0) (h2 : n.2.1.any outK = true) : checkI n = 9 := by rw [checkI, if_neg h, if_pos h1, if_pos h2]
theorem checkI_wait {n : Inn} (h : ¬ (wholeI n = false ∨ n.2.1.length < 2 ∨ 6 < n.2.1.length)) (h1 : pivE n.1 = 0) (h2 : n.2.1.any outK = false) (h3 : ¬ waitE n = 0) : checkI n = waitE n := by rw [checkI, if_neg h, if_pos h1, if_neg (by rw [h2]; simp), if_neg h3]
theorem checkI_big {n : Inn} (h : ¬ (wholeI n = false ∨ n.2.1.length < 2 ∨ 6 < n.2.1.length)) (h1 : pivE n.1 = 0) (h2 : n.2.1.any outK = false) (h3 : waitE n = 0) : checkI n = if 1016 < sizeI n then 5 else 0 := by rw [checkI, if_neg h, if_pos h1, if_neg (by rw [h2]; simp), if_pos h3]
def sICheck : PSpec := ⟨[.d InT], [⟨false, [.d (.int .i64)]⟩], fun x => IPre x.1, fun x => ((checkI x.1, ()), ())⟩
def sICheckR : PSpec := sICheck
theorem fICheck : FnOk Try.prog 29 := ⟨_, Try.func29, by decide, rfl⟩
theorem pICheck : PSound Try.prog 29 sICheck := by
  refine psound (T := tab) (S := (spOf [(34, sWhole.spec (lsOf [(59, lOutK)])), (57, sPivE.spec (lsOf [(59, lOutK)])), (58, sContainsFuncI.spec (lsOf [(59, lOutK)])), (60, sWaits.spec (lsOf [(59, lOutK)])), (26, sISize.spec (lsOf [(59, lOutK)]))])) (keep := k29) (by kernel_rfl) tabOk (spCons (pOk pWhole fWhole (by decide) ((lsCons ⟨pOutK, fOutK⟩ lsNil))) (spCons (pOk pPivE fPivE (by decide) ((lsCons ⟨pOutK, fOutK⟩ lsNil))) (spCons (pOk pContainsFuncI fContainsFuncI (by decide) ((lsCons ⟨pOutK, fOutK⟩ lsNil))) (spCons (pOk pWaits fWaits (by decide) ((lsCons ⟨pOutK, fOutK⟩ lsNil))) (spCons (pOk pISize fISize (by decide) ((lsCons ⟨pOutK, fOutK⟩ lsNil))) spNil))))) (by kernel_rfl) Try.func29 (by kernel_rfl) (by decide) fun xs hg hp => ?_
  obtain ⟨⟨ps, ks, bs⟩, ⟨⟩⟩ := xs
  clear hg
  change List (List UInt8) at ps
  change List Int at ks
  change List (List Msg) at bs
  change IPre (ps, ks, bs) at hp
  have hP := hp.p
  have hK := hp.k
  have hB := hp.b
  dsimp only at hP hK hB
  show vfun tab _ k29 Try.f29 [.agg [.sl .str ps, .sl (.int .i64) ks, .sl (.slice MsgT) bs]] [] _
  refine Ev.out ?_
  repeat' (first | ((with_reducible refine Ev.mk ?_); conv => whnf) | (with_reducible refine And.intro ?_ ?_) | (intro h))
  all_goals (try simp only [decide_eq_true_eq, decide_eq_false_iff_not, beq_iff_eq, bne_iff_ne, beq_eq_false_iff_ne, bne_eq_false_iff_eq, Int.toNat_natCast, ge_iff_le, gt_iff_lt, Bool.not_eq_true', Bool.not_eq_false', Int.not_lt, Int.not_le, ne_eq] at *)
  all_goals (try dsimp only [Ty.den, Ty.dflt, InT, sWhole, sPivE, sContainsFuncI] at *)
  all_goals (try simp only [eq4, ne4, eq3, ne3, eq2, ne2, Prod.eta, List.length_cons, List.length_nil, List.length_append, Nat.zero_add] at *)
  all_goals (try simp (disch := omega) only [wrap64] at *)
  all_goals try first | exact leafDraw (by kernel_rfl) | exact Leaf.mk trivial | (refine Leaf.mk ?_; omega) | (refine Leaf.mk ?_; unfold maxLen; omega)
  · exact Leaf.mk (ret1 (checkI_form (n := (ps, ks, bs)) (.inl ‹_›)).symm)
  · exact Leaf.mk (ret1 (checkI_form (n := (ps, ks, bs)) (.inr (.inl (show ks.length < 2 by omega)))).symm)
  · exact Leaf.mk (ret1 (checkI_form (n := (ps, ks, bs)) (.inr (.inr (show 6 < ks.length by omega)))).symm)
  all_goals
    have hwh : wholeI (ps, ks, bs) = true := ‹_›
    have hn : ¬ (wholeI (ps, ks, bs) = false ∨ ks.length < 2 ∨ 6 < ks.length) := by rw [hwh]; simp; omega
    have hw2 := (wholeI_iff.1 hwh).1
    dsimp only at hw2
  · exact Leaf.mk (ret1 (checkI_piv (n := (ps, ks, bs)) hn ‹_›).symm)
  · exact Leaf.mk (ret1 (checkI_kid (n := (ps, ks, bs)) hn ‹_› ‹_›).symm)
  have hk9 : ks.any outK = false := ‹_›
  have hp0 : pivE ps = 0 := ‹_›
  refine LoopVC.on (fun i : Nat => [(33, .i .i64 i)]) (fun _ => []) (fun i => i ≤ ks.length ∧ waitE (ps, ks, bs) = fnz (((List.range bs.length).drop i).map (waitsI (ps, ks, bs)))) (fun i => ks.length - i) 0 rfl ⟨by omega, rfl⟩ ?_
  intro i ⟨hi, he⟩
  repeat' (first | ((with_reducible refine Ev.mk ?_); conv => whnf) | (with_reducible refine And.intro ?_ ?_) | (intro h))
  all_goals (try simp only [decide_eq_true_eq, decide_eq_false_iff_not, beq_iff_eq, bne_iff_ne, beq_eq_false_iff_ne, bne_eq_false_iff_eq, Int.toNat_natCast, ge_iff_le, gt_iff_lt, Bool.not_eq_true', Bool.not_eq_false', Int.not_lt, Int.not_le, ne_eq] at *)
  all_goals (try dsimp only [Ty.den, Ty.dflt, InT, sWaits, sISize] at *)
  all_goals (try simp only [eq4, ne4, eq3, ne3, eq2, ne2, Prod.eta, List.length_cons, List.length_nil, List.length_append, Nat.zero_add] at *)
  all_goals (try simp (disch := omega) only [wrap64] at *)
  all_goals try first | exact leafDraw (by kernel_rfl) | exact Leaf.mk trivial | (refine Leaf.mk ?_; omega) | (refine Leaf.mk ?_; unfold maxLen; omega)
  all_goals try
    have hat := fnz_at (f := waitsI (ps, ks, bs)) (l := List.range bs.length) (i := i) 0 (by rw [List.length_range]; omega)
    rw [range_getD (by omega)] at hat
    rw [hat] at he
  · exact Leaf.mk (show 0 ≤ ((i : Nat) : Int) ∧ ((i : Nat) : Int) < ((bs.length : Nat) : Int) ∧ bs.length ≤ 1000 by omega)
  · rw [if_neg ‹¬ waitsI (ps, ks, bs) i = 0›] at he
    refine Leaf.mk (ret1 (show waitsI (ps, ks, bs) i = checkI (ps, ks, bs) from ?_))
    rw [checkI_wait (n := (ps, ks, bs)) hn hp0 hk9 (by rw [he]; assumption), he]
  · rw [if_pos ‹waitsI (ps, ks, bs) i = 0›] at he
    exact Leaf.mk ⟨i + 1, rfl, ⟨by omega, he⟩, by omega⟩
  all_goals
    rw [drop_end (by rw [List.length_range]; omega)] at he
    have hb := checkI_big (n := (ps, ks, bs)) hn hp0 hk9 he
  · refine Leaf.mk (ret1 (show (5 : Int) = checkI (ps, ks, bs) from ?_))
    rw [hb, if_pos (by omega)]
  · refine Leaf.mk (ret1 (show (0 : Int) = checkI (ps, ks, bs) from ?_))
    rw [hb, if_neg (by omega)]
end Go.Proofs.Ytjifalccioebnaa

set_option linter.unusedVariables false
set_option linter.unusedSimpArgs false
set_option maxRecDepth 8000
set_option maxHeartbeats 4000000
namespace Go.Proofs.Ytjifalccioebnaa
open Go.Eng
def putI (n : Inn) : List Int × Int := if checkI n = 0 then (layI n, 0) else ([], checkI n)
theorem retPi {u v : List Int × Int} (h : u = v) : (some ((u.1, ()), (u.2, ()), ()) : Option ((List Int × Unit) × (Int × Unit) × Unit)) = some ((v.1, ()), (v.2, ()), ()) := by rw [h]
theorem checkI_whole {n : Inn} (h : checkI n = 0) : wholeI n = true := by
  cases hw : wholeI n
  · rw [checkI_form (.inl hw)] at h; exact absurd h (by decide)
  · rfl
def sIPut : PSpec := ⟨[.d InT], [⟨false, [.o 5 (.int .u8)]⟩, ⟨false, [.d (.int .i64)]⟩], fun x => IPre x.1, fun x => (((putI x.1).1, ()), ((putI x.1).2, ()), ())⟩
theorem fIPut : FnOk Try.prog 21 := ⟨_, Try.func21, by decide, rfl⟩
theorem pIPut : PSound Try.prog 21 sIPut := by
  refine psound (T := tab) (S := (spOf [(29, sICheck.spec (lsOf [])), (45, sLayI.spec (lsOf []))])) (keep := k21) (by kernel_rfl) tabOk (spCons (pOk pICheck fICheck (by decide) lsNil) (spCons (pOk pLayI fLayI (by decide) lsNil) spNil)) (by kernel_rfl) Try.func21 (by kernel_rfl) (by decide) fun xs hg hp => ?_
  obtain ⟨⟨ps, ks, bs⟩, ⟨⟩⟩ := xs
  clear hg
  change List (List UInt8) at ps
  change List Int at ks
  change List (List Msg) at bs
  change IPre (ps, ks, bs) at hp
  show vfun tab _ k21 Try.f21 [.agg [.sl .str ps, .sl (.int .i64) ks, .sl (.slice MsgT) bs]] [] _
  refine Ev.out ?_
  repeat' (first | ((with_reducible refine Ev.mk ?_); conv => whnf) | (with_reducible refine And.intro ?_ ?_) | (intro h))
  all_goals (try simp only [decide_eq_true_eq, decide_eq_false_iff_not, beq_iff_eq, bne_iff_ne, beq_eq_false_iff_ne, bne_eq_false_iff_eq, Int.toNat_natCast, ge_iff_le, gt_iff_lt, Bool.not_eq_true', Bool.not_eq_false', Int.not_lt, Int.not_le, ne_eq] at *)
  all_goals (try dsimp only [Ty.den, Ty.dflt, InT, sICheck, sICheckR, sLayI, sLayIR] at *)
  all_goals (try simp only [eq4, ne4, eq3, ne3, eq2, ne2, Prod.eta, List.length_cons, List.length_nil, List.length_append, Nat.zero_add] at *)
  all_goals (try simp (disch := omega) only [wrap64] at *)
  all_goals try first | exact leafDraw (by kernel_rfl) | exact Leaf.mk trivial | (refine Leaf.mk ?_; omega) | (refine Leaf.mk ?_; unfold maxLen; omega)
  all_goals first
    | exact Leaf.mk hp
    | exact Leaf.mk ⟨hp, checkI_whole ‹checkI (ps, ks, bs) = 0›⟩
    | (refine Leaf.mk (retPi (u := ([], checkI (ps, ks, bs))) (v := putI (ps, ks, bs)) ?_); rw [putI, if_neg ‹¬ checkI (ps, ks, bs) = 0›])
    | (refine Leaf.mk (retPi (u := (layI (ps, ks, bs), 0)) (v := putI (ps, ks, bs)) ?_); rw [putI, if_pos ‹checkI (ps, ks, bs) = 0›])
    | skip
end Go.Proofs.Ytjifalccioebnaa

set_option linter.unusedVariables false
set_option linter.unusedSimpArgs false
set_option maxRecDepth 8000
set_option maxHeartbeats 4000000
namespace Go.Proofs.Ytjifalccioebnaa
open Go.Eng
def sEqualS : PSpec := ⟨[.d (.slice .str), .d (.slice .str)], [⟨false, [.d .bool]⟩], fun _ => True, fun x => ((decide ((x.1 : List S8) = x.2.1), ()), ())⟩
theorem fEqualS : FnOk Try.prog 53 := ⟨_, Try.func53, by decide, rfl⟩
theorem pEqualS : PSound Try.prog 53 sEqualS := by
  refine psound (T := tab) (S := (spOf [])) (keep := k53) (by kernel_rfl) tabOk spNil (by kernel_rfl) Try.func53 (by kernel_rfl) (by decide) fun xs hg hp => ?_
  obtain ⟨xs, ys, ⟨⟩⟩ := xs
  obtain ⟨⟨hl, -⟩, ⟨hl2, -⟩, -⟩ := hg
  have hl := len63 hl
  have hl2 := len63 hl2
  change List S8 at xs ys
  change xs.length ≤ _ at hl
  change ys.length ≤ _ at hl2
  clear hp
  show vfun tab _ k53 Try.f53 [.sl .str xs, .sl .str ys] [] _
  refine Ev.out ?_
  repeat' (first | ((with_reducible refine Ev.mk ?_); conv => whnf) | (with_reducible refine And.intro ?_ ?_) | (intro h))
  all_goals (try simp only [decide_eq_true_eq, decide_eq_false_iff_not, beq_iff_eq, bne_iff_ne, beq_eq_false_iff_ne, bne_eq_false_iff_eq, Int.toNat_natCast, ge_iff_le, gt_iff_lt, Bool.not_eq_true', Bool.not_eq_false', Int.not_lt, Int.not_le, ne_eq] at *)
  all_goals (try dsimp only [Ty.den, Ty.dflt, .str] at *)
  all_goals (try simp only [eq4, ne4, eq3, ne3, eq2, ne2, Prod.eta, List.length_cons, List.length_nil, List.length_append, Nat.zero_add] at *)
  all_goals (try simp (disch := omega) only [wrap64] at *)
  · refine Leaf.mk (ret1 (show false = decide (xs = ys) from ?_))
    rw [eq_comm, decide_eq_false_iff_not]; intro hc; subst hc; omega
  refine LoopVC.on (fun i : Nat => [(13, .i .i64 i)]) (fun _ => []) (fun i => i ≤ xs.length ∧ xs.take i = ys.take i) (fun i => xs.length - i) 0 rfl ⟨by omega, by simp⟩ ?_
  intro i ⟨hi, he⟩
  repeat' (first | ((with_reducible refine Ev.mk ?_); conv => whnf) | (with_reducible refine And.intro ?_ ?_) | (intro h))
  all_goals (try simp only [decide_eq_true_eq, decide_eq_false_iff_not, beq_iff_eq, bne_iff_ne, beq_eq_false_iff_ne, bne_eq_false_iff_eq, Int.toNat_natCast, ge_iff_le, gt_iff_lt, Bool.not_eq_true', Bool.not_eq_false', Int.not_lt, Int.not_le, ne_eq] at *)
  all_goals (try dsimp only [Ty.den, Ty.dflt, .str] at *)
  all_goals (try simp only [eq4, ne4, eq3, ne3, eq2, ne2, Prod.eta, List.length_cons, List.length_nil, List.length_append, Nat.zero_add] at *)
  all_goals (try simp (disch := omega) only [wrap64] at *)
  all_goals try first | exact leafDraw (by kernel_rfl) | exact Leaf.mk trivial | (refine Leaf.mk ?_; omega) | (refine Leaf.mk ?_; unfold maxLen; omega)
  all_goals try rw [eq6] at h
  all_goals try rw [ne6] at h
  all_goals first
    | exact Leaf.mk (ret1 (show false = decide (xs = ys) by rw [eq_comm, decide_eq_false_iff_not]; exact same_not [] h))
    | exact Leaf.mk ⟨i + 1, rfl, ⟨by omega, same_step [] (by omega) he (by omega) h⟩, by omega⟩
    | exact Leaf.mk (ret1 (show true = decide (xs = ys) by rw [eq_comm, decide_eq_true_eq]; exact same_end (by omega) he (by omega)))
def sEqualI : PSpec := ⟨[.d (.slice I64T), .d (.slice I64T)], [⟨false, [.d .bool]⟩], fun _ => True, fun x => ((decide ((x.1 : List Int) = x.2.1), ()), ())⟩
theorem fEqualI : FnOk Try.prog 54 := ⟨_, Try.func54, by decide, rfl⟩
theorem pEqualI : PSound Try.prog 54 sEqualI := by
  refine psound (T := tab) (S := (spOf [])) (keep := k54) (by kernel_rfl) tabOk spNil (by kernel_rfl) Try.func54 (by kernel_rfl) (by decide) fun xs hg hp => ?_
  obtain ⟨xs, ys, ⟨⟩⟩ := xs
  obtain ⟨⟨hl, -⟩, ⟨hl2, -⟩, -⟩ := hg
  have hl := len63 hl
  have hl2 := len63 hl2
  change List Int at xs ys
  change xs.length ≤ _ at hl
  change ys.length ≤ _ at hl2
  clear hp
  show vfun tab _ k54 Try.f54 [.sl I64T xs, .sl I64T ys] [] _
  refine Ev.out ?_
  repeat' (first | ((with_reducible refine Ev.mk ?_); conv => whnf) | (with_reducible refine And.intro ?_ ?_) | (intro h))
  all_goals (try simp only [decide_eq_true_eq, decide_eq_false_iff_not, beq_iff_eq, bne_iff_ne, beq_eq_false_iff_ne, bne_eq_false_iff_eq, Int.toNat_natCast, ge_iff_le, gt_iff_lt, Bool.not_eq_true', Bool.not_eq_false', Int.not_lt, Int.not_le, ne_eq] at *)
  all_goals (try dsimp only [Ty.den, Ty.dflt, I64T] at *)
  all_goals (try simp only [eq4, ne4, eq3, ne3, eq2, ne2, Prod.eta, List.length_cons, List.length_nil, List.length_append, Nat.zero_add] at *)
  all_goals (try simp (disch := omega) only [wrap64] at *)
  · refine Leaf.mk (ret1 (show false = decide (xs = ys) from ?_))
    rw [eq_comm, decide_eq_false_iff_not]; intro hc; subst hc; omega
  refine LoopVC.on (fun i : Nat => [(13, .i .i64 i)]) (fun _ => []) (fun i => i ≤ xs.length ∧ xs.take i = ys.take i) (fun i => xs.length - i) 0 rfl ⟨by omega, by simp⟩ ?_
  intro i ⟨hi, he⟩
  repeat' (first | ((with_reducible refine Ev.mk ?_); conv => whnf) | (with_reducible refine And.intro ?_ ?_) | (intro h))
  all_goals (try simp only [decide_eq_true_eq, decide_eq_false_iff_not, beq_iff_eq, bne_iff_ne, beq_eq_false_iff_ne, bne_eq_false_iff_eq, Int.toNat_natCast, ge_iff_le, gt_iff_lt, Bool.not_eq_true', Bool.not_eq_false', Int.not_lt, Int.not_le, ne_eq] at *)
  all_goals (try dsimp only [Ty.den, Ty.dflt, I64T] at *)
  all_goals (try simp only [eq4, ne4, eq3, ne3, eq2, ne2, Prod.eta, List.length_cons, List.length_nil, List.length_append, Nat.zero_add] at *)
  all_goals (try simp (disch := omega) only [wrap64] at *)
  all_goals try first | exact leafDraw (by kernel_rfl) | exact Leaf.mk trivial | (refine Leaf.mk ?_; omega) | (refine Leaf.mk ?_; unfold maxLen; omega)
  all_goals try rw [eq6] at h
  all_goals try rw [ne6] at h
  all_goals first
    | exact Leaf.mk (ret1 (show false = decide (xs = ys) by rw [eq_comm, decide_eq_false_iff_not]; exact same_not 0 h))
    | exact Leaf.mk ⟨i + 1, rfl, ⟨by omega, same_step 0 (by omega) he (by omega) h⟩, by omega⟩
    | exact Leaf.mk (ret1 (show true = decide (xs = ys) by rw [eq_comm, decide_eq_true_eq]; exact same_end (by omega) he (by omega)))
def sEqualM : PSpec := ⟨[.d (.slice MsgT), .d (.slice MsgT)], [⟨false, [.d .bool]⟩], fun _ => True, fun x => ((decide ((x.1 : List Msg) = x.2.1), ()), ())⟩
theorem fEqualM : FnOk Try.prog 56 := ⟨_, Try.func56, by decide, rfl⟩
theorem pEqualM : PSound Try.prog 56 sEqualM := by
  refine psound (T := tab) (S := (spOf [])) (keep := k56) (by kernel_rfl) tabOk spNil (by kernel_rfl) Try.func56 (by kernel_rfl) (by decide) fun xs hg hp => ?_
  obtain ⟨xs, ys, ⟨⟩⟩ := xs
  obtain ⟨⟨hl, -⟩, ⟨hl2, -⟩, -⟩ := hg
  have hl := len63 hl
  have hl2 := len63 hl2
  change List Msg at xs ys
  change xs.length ≤ _ at hl
  change ys.length ≤ _ at hl2
  clear hp
  show vfun tab _ k56 Try.f56 [.sl MsgT xs, .sl MsgT ys] [] _
  refine Ev.out ?_
  repeat' (first | ((with_reducible refine Ev.mk ?_); conv => whnf) | (with_reducible refine And.intro ?_ ?_) | (intro h))
  all_goals (try simp only [decide_eq_true_eq, decide_eq_false_iff_not, beq_iff_eq, bne_iff_ne, beq_eq_false_iff_ne, bne_eq_false_iff_eq, Int.toNat_natCast, ge_iff_le, gt_iff_lt, Bool.not_eq_true', Bool.not_eq_false', Int.not_lt, Int.not_le, ne_eq] at *)
  all_goals (try dsimp only [Ty.den, Ty.dflt, MsgT] at *)
  all_goals (try simp only [eq4, ne4, eq3, ne3, eq2, ne2, Prod.eta, List.length_cons, List.length_nil, List.length_append, Nat.zero_add] at *)
  all_goals (try simp (disch := omega) only [wrap64] at *)
  · refine Leaf.mk (ret1 (show false = decide (xs = ys) from ?_))
    rw [eq_comm, decide_eq_false_iff_not]; intro hc; subst hc; omega
  refine LoopVC.on (fun i : Nat => [(13, .i .i64 i)]) (fun _ => []) (fun i => i ≤ xs.length ∧ xs.take i = ys.take i) (fun i => xs.length - i) 0 rfl ⟨by omega, by simp⟩ ?_
  intro i ⟨hi, he⟩
  repeat' (first | ((with_reducible refine Ev.mk ?_); conv => whnf) | (with_reducible refine And.intro ?_ ?_) | (intro h))
  all_goals (try simp only [decide_eq_true_eq, decide_eq_false_iff_not, beq_iff_eq, bne_iff_ne, beq_eq_false_iff_ne, bne_eq_false_iff_eq, Int.toNat_natCast, ge_iff_le, gt_iff_lt, Bool.not_eq_true', Bool.not_eq_false', Int.not_lt, Int.not_le, ne_eq] at *)
  all_goals (try dsimp only [Ty.den, Ty.dflt, MsgT] at *)
  all_goals (try simp only [eq4, ne4, eq3, ne3, eq2, ne2, Prod.eta, List.length_cons, List.length_nil, List.length_append, Nat.zero_add] at *)
  all_goals (try simp (disch := omega) only [wrap64] at *)
  all_goals try first | exact leafDraw (by kernel_rfl) | exact Leaf.mk trivial | (refine Leaf.mk ?_; omega) | (refine Leaf.mk ?_; unfold maxLen; omega)
  all_goals try rw [eq6] at h
  all_goals try rw [ne6] at h
  all_goals first
    | exact Leaf.mk (ret1 (show false = decide (xs = ys) by rw [eq_comm, decide_eq_false_iff_not]; exact same_not msg0 h))
    | exact Leaf.mk ⟨i + 1, rfl, ⟨by omega, same_step msg0 (by omega) he (by omega) h⟩, by omega⟩
    | exact Leaf.mk (ret1 (show true = decide (xs = ys) by rw [eq_comm, decide_eq_true_eq]; exact same_end (by omega) he (by omega)))
instance decBufs : DecidableEq (List (List Msg)) := inferInstance
instance decInn2 : DecidableEq (List Int × List (List Msg)) := inferInstance
instance decInn : DecidableEq Inn := inferInstanceAs (DecidableEq (List (List UInt8) × List Int × List (List Msg)))
def sameI (a b : Inn) : Bool := decide (a = b)
theorem sameI_no {a b : Inn} (h : ¬ a = b) : false = sameI a b := (decide_eq_false h).symm
theorem sameI_yes {a b : Inn} (h1 : a.1 = b.1) (h2 : a.2.1 = b.2.1) (h3 : a.2.2 = b.2.2) : true = sameI a b := (decide_eq_true (by obtain ⟨x, y, z⟩ := a; obtain ⟨u, v, w⟩ := b; dsimp only at *; rw [h1, h2, h3])).symm
def sISame : PSpec := ⟨[.d InT, .d InT], [⟨false, [.d .bool]⟩], fun x => List.length x.1.2.1 ≤ 100000 ∧ List.length x.1.2.2 ≤ 100000, fun x => ((sameI x.1 x.2.1, ()), ())⟩
def sISameR : PSpec := sISame
theorem fISameR : FnOk Try.prog 36 := ⟨_, Try.func36, by decide, rfl⟩
theorem pISameR : PSound Try.prog 36 sISameR := by
  refine psound (T := tab) (S := (spOf [(61, sSameT.spec (lsOf [])), (12, sSameM.spec (lsOf []))])) (keep := k36) (by kernel_rfl) tabOk (spCons (pOk pSameT fSameT (by decide) lsNil) (spCons (pOk pSameM fSameM (by decide) lsNil) spNil)) (by kernel_rfl) Try.func36 (by kernel_rfl) (by decide) fun xs hg hp => ?_
  obtain ⟨⟨ps, ks, bs⟩, ⟨ps1, ks1, bs1⟩, ⟨⟩⟩ := xs
  clear hg
  change List (List UInt8) at ps ps1
  change List Int at ks ks1
  change List (List Msg) at bs bs1
  change ks.length ≤ 100000 ∧ bs.length ≤ 100000 at hp
  obtain ⟨hk, hb⟩ := hp
  show vfun tab _ k36 Try.f36 [.agg [.sl .str ps, .sl (.int .i64) ks, .sl (.slice MsgT) bs], .agg [.sl .str ps1, .sl (.int .i64) ks1, .sl (.slice MsgT) bs1]] [] _
  refine Ev.out ?_
  repeat' (first | ((with_reducible refine Ev.mk ?_); conv => whnf) | (with_reducible refine And.intro ?_ ?_) | (intro h))
  all_goals (try simp only [decide_eq_true_eq, decide_eq_false_iff_not, beq_iff_eq, bne_iff_ne, beq_eq_false_iff_ne, bne_eq_false_iff_eq, Int.toNat_natCast, ge_iff_le, gt_iff_lt, Bool.not_eq_true', Bool.not_eq_false', Int.not_lt, Int.not_le, ne_eq] at *)
  all_goals (try dsimp only [Ty.den, Ty.dflt, InT, sSameT] at *)
  all_goals (try simp only [eq4, ne4, eq3, ne3, eq2, ne2, Prod.eta, List.length_cons, List.length_nil, List.length_append, Nat.zero_add] at *)
  all_goals (try simp (disch := omega) only [wrap64] at *)
  all_goals try first | exact leafDraw (by kernel_rfl) | exact Leaf.mk trivial | (refine Leaf.mk ?_; omega) | (refine Leaf.mk ?_; unfold maxLen; omega)
  all_goals try first
    | (refine Leaf.mk (ret1 (show false = sameI (ps, ks, bs) (ps1, ks1, bs1) from sameI_no fun h9 => ?_)); exact of_decide_eq_false (show decide (ps = ps1) = false from ‹_›) (congrArg (·.1) h9))
    | (refine Leaf.mk (ret1 (show false = sameI (ps, ks, bs) (ps1, ks1, bs1) from sameI_no fun h9 => ?_)); have := congrArg (·.2.1.length) h9; dsimp only at this; omega)
    | (refine Leaf.mk (ret1 (show false = sameI (ps, ks, bs) (ps1, ks1, bs1) from sameI_no fun h9 => ?_)); have := congrArg (·.2.2.length) h9; dsimp only at this; omega)
  have hps : ps = ps1 := of_decide_eq_true (show decide (ps = ps1) = true from ‹_›)
  refine LoopVC.on (fun i : Nat => [(5, .i .i64 i)]) (fun _ => []) (fun i => i ≤ ks.length ∧ ks.take i = ks1.take i) (fun i => ks.length - i) 0 rfl ⟨by omega, by simp⟩ ?_
  intro i ⟨hi, he⟩
  repeat' (first | ((with_reducible refine Ev.mk ?_); conv => whnf) | (with_reducible refine And.intro ?_ ?_) | (intro h))
  all_goals (try simp only [decide_eq_true_eq, decide_eq_false_iff_not, beq_iff_eq, bne_iff_ne, beq_eq_false_iff_ne, bne_eq_false_iff_eq, Int.toNat_natCast, ge_iff_le, gt_iff_lt, Bool.not_eq_true', Bool.not_eq_false', Int.not_lt, Int.not_le, ne_eq] at *)
  all_goals (try dsimp only [Ty.den, Ty.dflt, InT] at *)
  all_goals (try simp only [eq4, ne4, eq3, ne3, eq2, ne2, Prod.eta, List.length_cons, List.length_nil, List.length_append, Nat.zero_add] at *)
  all_goals (try simp (disch := omega) only [wrap64] at *)
  all_goals try first | exact leafDraw (by kernel_rfl) | exact Leaf.mk trivial | (refine Leaf.mk ?_; omega) | (refine Leaf.mk ?_; unfold maxLen; omega)
  all_goals try first
    | exact Leaf.mk (ret1 (show false = sameI (ps, ks, bs) (ps1, ks1, bs1) from sameI_no fun h9 => same_not 0 ‹_› (congrArg (·.2.1) h9)))
    | exact Leaf.mk ⟨i + 1, rfl, ⟨by omega, same_step 0 (by omega) he (by omega) ‹_›⟩, by omega⟩
  have hks : ks = ks1 := same_end (by omega) he (by omega)
  clear he
  refine LoopVC.on (fun i : Nat => [(6, .i .i64 i)]) (fun _ => []) (fun i => i ≤ bs.length ∧ bs.take i = bs1.take i) (fun i => bs.length - i) 0 rfl ⟨by omega, by simp⟩ ?_
  intro i ⟨hi, he⟩
  repeat' (first | ((with_reducible refine Ev.mk ?_); conv => whnf) | (with_reducible refine And.intro ?_ ?_) | (intro h))
  all_goals (try simp only [decide_eq_true_eq, decide_eq_false_iff_not, beq_iff_eq, bne_iff_ne, beq_eq_false_iff_ne, bne_eq_false_iff_eq, Int.toNat_natCast, ge_iff_le, gt_iff_lt, Bool.not_eq_true', Bool.not_eq_false', Int.not_lt, Int.not_le, ne_eq] at *)
  all_goals (try dsimp only [Ty.den, Ty.dflt, InT, sSameM] at *)
  all_goals (try simp only [eq4, ne4, eq3, ne3, eq2, ne2, Prod.eta, List.length_cons, List.length_nil, List.length_append, Nat.zero_add] at *)
  all_goals (try simp (disch := omega) only [wrap64] at *)
  all_goals try first | exact leafDraw (by kernel_rfl) | exact Leaf.mk trivial | (refine Leaf.mk ?_; omega) | (refine Leaf.mk ?_; unfold maxLen; omega)
  all_goals try first
    | exact Leaf.mk (ret1 (show false = sameI (ps, ks, bs) (ps1, ks1, bs1) from sameI_no fun h9 => same_not [] (of_decide_eq_false (show decide (bs.getD i [] = bs1.getD i []) = false from ‹_›)) (congrArg (·.2.2) h9)))
    | exact Leaf.mk ⟨i + 1, rfl, ⟨by omega, same_step [] (by omega) he (by omega) (of_decide_eq_true (show decide (bs.getD i [] = bs1.getD i []) = true from ‹_›))⟩, by omega⟩
    | exact Leaf.mk (ret1 (show true = sameI (ps, ks, bs) (ps1, ks1, bs1) from sameI_yes hps hks (show bs = bs1 from same_end (by omega) he (by omega))))
theorem fEqFM : FnOk Try.prog 55 := ⟨_, Try.func55, by decide, rfl⟩
noncomputable def iEqFM : Eng.Spec := inl tab (spOf [(56, sEqualM.spec (lsOf []))]) k55 Try.f55
theorem pEqFM : SpecOk Try.prog 55 iEqFM := inl_ok tabOk (spCons (pOk pEqualM fEqualM (by decide) lsNil) spNil) (by kernel_rfl) Try.func55 (by kernel_rfl)
theorem fISame : FnOk Try.prog 27 := ⟨_, Try.func27, by decide, rfl⟩
theorem pISame : PSound Try.prog 27 sISame := by
  refine psound (T := tab) (S := (spOf [(53, sEqualS.spec (lsOf [])), (54, sEqualI.spec (lsOf [])), (55, iEqFM), (56, sEqualM.spec (lsOf []))])) (keep := k27) (by kernel_rfl) tabOk (spCons (pOk pEqualS fEqualS (by decide) lsNil) (spCons (pOk pEqualI fEqualI (by decide) lsNil) (spCons (.inl ⟨pEqFM, fEqFM⟩) (spCons (pOk pEqualM fEqualM (by decide) lsNil) spNil)))) (by kernel_rfl) Try.func27 (by kernel_rfl) (by decide) fun xs hg hp => ?_
  obtain ⟨⟨ps, ks, bs⟩, ⟨ps1, ks1, bs1⟩, ⟨⟩⟩ := xs
  clear hg
  change List (List UInt8) at ps ps1
  change List Int at ks ks1
  change List (List Msg) at bs bs1
  change ks.length ≤ 100000 ∧ bs.length ≤ 100000 at hp
  obtain ⟨hk, hb⟩ := hp
  show vfun tab _ k27 Try.f27 [.agg [.sl .str ps, .sl (.int .i64) ks, .sl (.slice MsgT) bs], .agg [.sl .str ps1, .sl (.int .i64) ks1, .sl (.slice MsgT) bs1]] [] _
  refine Ev.out ?_
  repeat' (first | ((with_reducible refine Ev.mk ?_); conv => whnf) | (with_reducible refine And.intro ?_ ?_) | (intro h))
  all_goals (try simp only [decide_eq_true_eq, decide_eq_false_iff_not, beq_iff_eq, bne_iff_ne, beq_eq_false_iff_ne, bne_eq_false_iff_eq, Int.toNat_natCast, ge_iff_le, gt_iff_lt, Bool.not_eq_true', Bool.not_eq_false', Int.not_lt, Int.not_le, ne_eq] at *)
  all_goals (try dsimp only [Ty.den, Ty.dflt, InT, sEqualS, sEqualI] at *)
  all_goals (try simp only [eq4, ne4, eq3, ne3, eq2, ne2, Prod.eta, List.length_cons, List.length_nil, List.length_append, Nat.zero_add] at *)
  all_goals (try simp (disch := omega) only [wrap64] at *)
  all_goals try first | exact leafDraw (by kernel_rfl) | exact Leaf.mk trivial | (refine Leaf.mk ?_; omega) | (refine Leaf.mk ?_; unfold maxLen; omega)
  all_goals try first
    | exact Leaf.mk (ret1 (show false = sameI (ps, ks, bs) (ps1, ks1, bs1) from sameI_no fun h9 => of_decide_eq_false (show decide (ps = ps1) = false from ‹_›) (congrArg (·.1) h9)))
    | exact Leaf.mk (ret1 (show false = sameI (ps, ks, bs) (ps1, ks1, bs1) from sameI_no fun h9 => of_decide_eq_false (show decide (ks = ks1) = false from ‹_›) (congrArg (·.2.1) h9)))
    | (refine Leaf.mk (ret1 (show false = sameI (ps, ks, bs) (ps1, ks1, bs1) from sameI_no fun h9 => ?_)); have := congrArg (·.2.2.length) h9; dsimp only at this; omega)
  have hps : ps = ps1 := of_decide_eq_true (show decide (ps = ps1) = true from ‹_›)
  have hks : ks = ks1 := of_decide_eq_true (show decide (ks = ks1) = true from ‹_›)
  refine LoopVC.on (fun i : Nat => [(17, .i .i64 i)]) (fun _ => []) (fun i => i ≤ bs.length ∧ bs.take i = bs1.take i) (fun i => bs.length - i) 0 rfl ⟨by omega, by simp⟩ ?_
  intro i ⟨hi, he⟩
  repeat' (first | ((with_reducible refine Ev.mk ?_); conv => whnf) | (with_reducible refine And.intro ?_ ?_) | (intro h))
  all_goals (try simp only [decide_eq_true_eq, decide_eq_false_iff_not, beq_iff_eq, bne_iff_ne, beq_eq_false_iff_ne, bne_eq_false_iff_eq, Int.toNat_natCast, ge_iff_le, gt_iff_lt, Bool.not_eq_true', Bool.not_eq_false', Int.not_lt, Int.not_le, ne_eq] at *)
  all_goals (try dsimp only [Ty.den, Ty.dflt, InT, sEqualM] at *)
  all_goals (try simp only [eq4, ne4, eq3, ne3, eq2, ne2, Prod.eta, List.length_cons, List.length_nil, List.length_append, Nat.zero_add] at *)
  all_goals (try simp (disch := omega) only [wrap64] at *)
  all_goals try first | exact leafDraw (by kernel_rfl) | exact Leaf.mk trivial | (refine Leaf.mk ?_; omega) | (refine Leaf.mk ?_; unfold maxLen; omega)
  all_goals try first
    | exact Leaf.mk (ret1 (show false = sameI (ps, ks, bs) (ps1, ks1, bs1) from sameI_no fun h9 => same_not [] (of_decide_eq_false (show decide (bs.getD i [] = bs1.getD i []) = false from ‹_›)) (congrArg (·.2.2) h9)))
    | exact Leaf.mk ⟨i + 1, rfl, ⟨by omega, same_step [] (by omega) he (by omega) (of_decide_eq_true (show decide (bs.getD i [] = bs1.getD i []) = true from ‹_›))⟩, by omega⟩
    | exact Leaf.mk (ret1 (show true = sameI (ps, ks, bs) (ps1, ks1, bs1) from sameI_yes hps hks (show bs = bs1 from same_end (by omega) he (by omega))))
end Go.Proofs.Ytjifalccioebnaa

set_option linter.unusedVariables false
set_option linter.unusedSimpArgs false
set_option maxRecDepth 8000
set_option maxHeartbeats 4000000
namespace Go.Proofs.Ytjifalccioebnaa
open Go.Eng
def rdKey (k : Int) (r : List Int) : List UInt8 × List Int × Int := if k = 0 then rdText r 0 16 else ([], r, 0)
def rdTxn (k : Int) (p : List Int × Int) : Int × List Int × Int := if k = 0 ∨ k = 1 ∨ k = 2 then rdSmall p.1 p.2 else (0, p)
def rdTs (k : Int) (p : List Int × Int) : Int × List Int × Int := if k = 1 ∨ k = 3 then rdSmall p.1 p.2 else (0, p)
def readM (k : Int) (r : List Int) : Msg :=
  let t := rdTs k (rdTxn k (rdKey k r).2).2
  (k, (rdKey k r).1, (rdTxn k (rdKey k r).2).1, t.1, if k = 0 ∧ 0 < t.2.1.length then (t.2.1.getD 0 0 == 1, (rdText (t.2.1.drop 1) 0 24).1) else (false, []))
def preB : List Int → List Int → Bool
  | [], _ => true
  | _ :: _, [] => false
  | a :: r, b :: s => decide (a = b) && preB r s
theorem preB_iff : ∀ (a b : List Int), preB a b = true ↔ a <+: b
  | [], b => by simp [preB]
  | a :: r, [] => by simp [preB]
  | a :: r, b :: s => by
    rw [preB, Bool.and_eq_true, decide_eq_true_eq, preB_iff r s, List.cons_prefix_cons]
def getM (b : List Int) : Msg × Int × Int := match b with
  | [] => (msg0, 0, 4)
  | k :: r => if mcheck (readM k r) = 0 ∧ preB (putM (readM k r)) (k :: r) = true then (readM k r, (((putM (readM k r)).length : Nat) : Int), 0) else (msg0, 0, 4)
def tailM (m : Msg) (s : List Int) : List Int := (if m.1 = 0 then gvB m.2.2.2.2.1 m.2.2.2.2.2 else []) ++ s
structure RdOk (m : Msg) (r s : List Int) : Prop where
  key : rdKey m.1 r = (m.2.1, (rdKey m.1 r).2.1, 0)
  txn : rdTxn m.1 (rdKey m.1 r).2 = (m.2.2.1, (rdTxn m.1 (rdKey m.1 r).2).2.1, 0)
  ts : rdTs m.1 (rdTxn m.1 (rdKey m.1 r).2).2 = (m.2.2.2.1, tailM m s, 0)
  all : readM m.1 r = m
theorem readM_put {m : Msg} (h0 : 0 ≤ m.1) (h : mcheck m = 0) (s : List Int) : ∃ r, putM m ++ s = m.1 :: r ∧ RdOk m r s := by
  have ok := mcheck_ok h
  obtain ⟨kind, key, txn, ts, gone, val⟩ := m
  have hk1 := ok.key
  have hv1 := ok.val
  have hk2 := ok.kind
  have ht1 := ok.txn
  have ht2 := ok.ts
  have hf := ok.form
  dsimp only [mForm] at *
  have hkey := fun r => rdText_put (k := key) (m := 16) (by omega) r
  have htxn := fun r => rdSmall_put (n := txn) ht1.1 ht1.2 r
  have hts := fun r => rdSmall_put (n := ts) ht2.1 ht2.2 r
  have hval := fun r => rdText_put (k := val) (m := 24) (by omega) r
  refine ⟨_, rfl, ?_⟩
  rcases (by omega : kind = 0 ∨ kind = 1 ∨ kind = 2 ∨ kind = 3) with rfl | rfl | rfl | rfl
  · have hts0 : ts = 0 := hf.2.2.1 (.inl rfl)
    subst hts0
    constructor
    all_goals simp [rdKey, rdTxn, rdTs, readM, tailM, hkey, htxn]
    rw [gvB]
    cases gone <;> simp [hval]
  · obtain ⟨rfl, h2, h3⟩ : gone = false ∧ key = [] ∧ val = [] := by
      rcases hf.1 with h | h
      · omega
      · exact ⟨h.1, List.eq_nil_of_length_eq_zero h.2.1, List.eq_nil_of_length_eq_zero h.2.2⟩
    subst h2 h3
    constructor <;> simp [rdKey, rdTxn, rdTs, readM, tailM, htxn, hts]
  · obtain ⟨rfl, h2, h3⟩ : gone = false ∧ key = [] ∧ val = [] := by
      rcases hf.1 with h | h
      · omega
      · exact ⟨h.1, List.eq_nil_of_length_eq_zero h.2.1, List.eq_nil_of_length_eq_zero h.2.2⟩
    have hts0 : ts = 0 := hf.2.2.1 (.inr rfl)
    subst h2 h3 hts0
    constructor <;> simp [rdKey, rdTxn, rdTs, readM, tailM, htxn, hts]
  · obtain ⟨rfl, h2, h3⟩ : gone = false ∧ key = [] ∧ val = [] := by
      rcases hf.1 with h | h
      · omega
      · exact ⟨h.1, List.eq_nil_of_length_eq_zero h.2.1, List.eq_nil_of_length_eq_zero h.2.2⟩
    have htx0 : txn = 0 := hf.2.1 rfl
    subst h2 h3 htx0
    constructor <;> simp [rdKey, rdTxn, rdTs, readM, tailM, htxn, hts]
theorem getM_put {m : Msg} {b : List Int} (h0 : 0 ≤ m.1) (h : mcheck m = 0) (hb : putM m <+: b) : getM b = (m, (((putM m).length : Nat) : Int), 0) := by
  obtain ⟨s, rfl⟩ := hb
  obtain ⟨r, hr, q⟩ := readM_put h0 h s
  rw [hr, getM]
  rw [q.all, if_pos ⟨h, (preB_iff _ _).2 ⟨s, hr⟩⟩]
theorem getM_not {b : List Int} (hB : isB b) (hn : ∀ m : Msg, 0 ≤ m.1 → mcheck m = 0 → ¬ putM m <+: b) : getM b = (msg0, 0, 4) := by
  cases b with
  | nil => rfl
  | cons k r =>
    rw [getM, if_neg]
    intro hc
    exact hn (readM k r) (show 0 ≤ k from (hB k List.mem_cons_self).1) hc.1 ((preB_iff _ _).1 hc.2)
theorem getM_end {b : List Int} {m : Msg} (hB : isB b) (h0 : 0 ≤ m.1) (hu : ∀ x : Msg, 0 ≤ x.1 → mcheck x = 0 → putM x <+: b → m = x) :
    getM b = if mcheck m = 0 ∧ putM m <+: b then (m, (((putM m).length : Nat) : Int), 0) else (msg0, 0, 4) := by
  split
  · rename_i h; exact getM_put h0 h.1 h.2
  · rename_i h
    refine getM_not hB fun x hx0 hx hp => h ?_
    have := hu x hx0 hx hp
    subst this
    exact ⟨hx, hp⟩
theorem putR12_zero {m : Msg} (h : (putR12 m).2 = 0) : mcheck m = 0 ∧ (putR12 m).1 = putM m := by
  unfold putR12 at h ⊢
  split at h
  · rename_i hc; rw [if_pos hc]; exact ⟨hc, rfl⟩
  · rename_i hc; exact absurd h hc
theorem putR12_not {m : Msg} (h : ¬ (putR12 m).2 = 0) : ¬ mcheck m = 0 := fun hc => h (by unfold putR12; rw [if_pos hc])
def hasPre (b c : List Int) : Bool := decide (c.length ≤ b.length) && (strOfBytes (b.take c.length) == strOfBytes c)
theorem pre_str {b c : List Int} (hb : isB b) (hc : isB c) : strOfBytes c = strOfBytes (b.take c.length) ↔ c <+: b := by
  constructor
  · intro h
    rw [str_inj hc (isB_take hb _) h]; exact List.take_prefix _ _
  · intro h
    rw [← List.prefix_iff_eq_take.1 h]
theorem hasPre_iff {b c : List Int} (hb : isB b) (hc : isB c) : hasPre b c = true ↔ c <+: b := by
  rw [hasPre, str_eq (isB_take hb _) hc, Bool.and_eq_true, decide_eq_true_eq, decide_eq_true_eq]
  constructor
  · intro h; rw [← h.2]; exact List.take_prefix _ _
  · intro h; exact ⟨h.length_le, (List.prefix_iff_eq_take.1 h).symm⟩
structure GetFin (b : List Int) (m : Msg) : Prop where
  bad : ¬ (putR12 m).2 = 0 → ((msg0, 0, 4) : Msg × Int × Int) = getM b
  nol : (putR12 m).2 = 0 → (b.length : Int) < (putR12 m).1.length → ((msg0, 0, 4) : Msg × Int × Int) = getM b
  nos : (putR12 m).2 = 0 → ¬ strOfBytes (putR12 m).1 = strOfBytes (b.take (putR12 m).1.length) → ((msg0, 0, 4) : Msg × Int × Int) = getM b
  yess : (putR12 m).2 = 0 → strOfBytes (putR12 m).1 = strOfBytes (b.take (putR12 m).1.length) → (m, (((putR12 m).1.length : Nat) : Int), 0) = getM b
  nop : (putR12 m).2 = 0 → hasPre b (putR12 m).1 = false → ((msg0, 0, 4) : Msg × Int × Int) = getM b
  yesp : (putR12 m).2 = 0 → hasPre b (putR12 m).1 = true → (m, (((putR12 m).1.length : Nat) : Int), 0) = getM b
theorem fin_of {k : Int} {r : List Int} {m : Msg} (hB : isB (k :: r)) (hk : m.1 = k) (hu : ∀ (x : Msg) (s : List Int), x.1 = k → MsgOk x → RdOk x r s → m = readM k r) : GetFin (k :: r) m := by
  have h0 : 0 ≤ m.1 ∧ m.1 ≤ 255 := by rw [hk]; exact hB k List.mem_cons_self
  have e := getM_end hB h0.1 (fun x hx0 hx hp => by
    obtain ⟨s, hs⟩ := hp
    obtain ⟨r', hr, q⟩ := readM_put hx0 hx s
    rw [hs] at hr
    injection hr with h1 h2
    subst h2
    exact (hu x s h1.symm (mcheck_ok hx) q).trans (by rw [h1]; exact q.all))
  have hb : (putR12 m).2 = 0 → isB (putR12 m).1 := fun h => by rw [(putR12_zero h).2]; exact isB_M h0.1 h0.2
  have no : (putR12 m).2 = 0 → ¬ (putR12 m).1 <+: k :: r → ((msg0, 0, 4) : Msg × Int × Int) = getM (k :: r) := fun h hn => by
    rw [e, if_neg (fun hc => hn (by rw [(putR12_zero h).2]; exact hc.2))]
  have yes : (putR12 m).2 = 0 → (putR12 m).1 <+: k :: r → (m, (((putR12 m).1.length : Nat) : Int), 0) = getM (k :: r) := fun h hp => by
    rw [e, if_pos ⟨(putR12_zero h).1, by rw [← (putR12_zero h).2]; exact hp⟩, (putR12_zero h).2]
  refine ⟨fun h => ?_, fun h hl => no h fun hc => ?_, fun h hs => no h fun hc => hs ((pre_str hB (hb h)).2 hc), fun h hs => yes h ((pre_str hB (hb h)).1 hs),
    fun h hs => no h fun hc => ?_, fun h hs => yes h ((hasPre_iff hB (hb h)).1 hs)⟩
  · rw [e, if_neg (fun hc => putR12_not h hc.1)]
  · have := hc.length_le; omega
  · rw [(hasPre_iff hB (hb h)).2 hc] at hs; exact Bool.noConfusion hs
end Go.Proofs.Ytjifalccioebnaa

set_option linter.unusedVariables false
set_option linter.unusedSimpArgs false
set_option maxHeartbeats 1000000
namespace Go.Proofs.Ytjifalccioebnaa
open Go.Eng
def nnI (n : Inn) : Prop := ∀ l ∈ n.2.2, ∀ m ∈ l, 0 ≤ m.1
instance (n : Inn) : Decidable (nnI n) := by unfold nnI; infer_instance
theorem fnz_zero : ∀ {l : List Int}, fnz l = 0 → ∀ e ∈ l, e = 0
  | [], _, e, h => by simp at h
  | x :: l, h, e, he => by
    rw [fnz] at h
    split at h
    · rename_i hx
      rcases List.mem_cons.1 he with rfl | he
      · exact hx
      · exact fnz_zero h e he
    · rename_i hx; exact absurd h hx
structure ValI (n : Inn) : Prop where
  w1 : n.2.2.length = n.2.1.length
  w2 : n.1.length + 1 = n.2.1.length
  k2 : 2 ≤ n.2.1.length
  k6 : n.2.1.length ≤ 6
  ps : ∀ p ∈ n.1, p.length ≤ 16
  up : UpT n.1 n.1.length
  ks : ∀ k ∈ n.2.1, 0 ≤ k ∧ k ≤ 1099511627776
  ms : ∀ b ∈ n.2.2, ∀ m ∈ b, mcheck m = 0
  wt : waitE n = 0
  sz : (layI n).length ≤ 1016
theorem valI {n : Inn} (h : checkI n = 0) : ValI n := by
  have hw := checkI_whole h
  have hn : ¬ (wholeI n = false ∨ n.2.1.length < 2 ∨ 6 < n.2.1.length) := fun hc => by rw [checkI_form hc] at h; exact absurd h (by decide)
  have hp : pivE n.1 = 0 := Classical.byContradiction fun hc => hc (by rw [checkI_piv hn hc] at h; exact h)
  have hk : n.2.1.any outK = false := by
    cases hk : n.2.1.any outK
    · rfl
    · rw [checkI_kid hn hp hk] at h; exact absurd h (by decide)
  have ht : waitE n = 0 := Classical.byContradiction fun hc => hc (by rw [checkI_wait hn hp hk hc] at h; exact h)
  have hs : sizeI n ≤ 1016 := by
    rw [checkI_big hn hp hk ht] at h
    split at h
    · exact absurd h (by decide)
    · omega
  obtain ⟨h1, h2⟩ := wholeI_iff.1 hw
  unfold pivE at hp
  split at hp
  · exact absurd hp (by decide)
  rename_i ha
  split at hp
  case isFalse => exact absurd hp (by decide)
  rename_i hu
  refine ⟨h1, h2, by omega, by omega, fun p hp => ?_, hu, fun k hk9 => ?_, fun b hb m hm => ?_, ht, by rw [sizeI, if_pos hw] at hs; exact hs⟩
  · have h9 : ¬ bigT p = true := fun hc => ha (List.any_eq_true.2 ⟨p, hp, hc⟩)
    have h8 := of_decide_eq_false (by simpa [bigT] using h9 : decide (((p.length : Nat) : Int) > 16) = false)
    omega
  · have h9 := List.any_eq_false.1 hk k hk9
    simp only [outK, Bool.or_eq_true, decide_eq_true_eq] at h9
    omega
  · obtain ⟨i, hi, rfl⟩ := List.mem_iff_getElem.1 hb
    have h9 := fnz_zero ht (waitsI n i) (List.mem_map.2 ⟨i, List.mem_range.2 hi, rfl⟩)
    have h8 := fnz_zero h9 (ew n i m) (List.mem_map.2 ⟨m, by rw [List.getD_eq_getElem?_getD, List.getElem?_eq_getElem hi]; exact hm, rfl⟩)
    rw [ew] at h8
    split at h8
    · assumption
    · exact h8
theorem pm_ok {m : Msg} (h : mcheck m = 0) : pm m = putM m := by rw [pm, putR12, if_pos h]
theorem putM_pos (m : Msg) : 1 ≤ (putM m).length := by rw [putM, List.length_cons]; omega
theorem max0_ok {k : Int} (h : 0 ≤ k) : max0 k = k := by unfold max0; split <;> omega
def rdPs : Nat → List Int → List (List UInt8) × List Int
  | 0, r => ([], r)
  | k + 1, r => ((rdText r 0 16).1 :: (rdPs k (rdText r 0 16).2.1).1, (rdPs k (rdText r 0 16).2.1).2)
def rdMs : Nat → List Int → List Msg × List Int
  | 0, r => ([], r)
  | k + 1, r => ((getM r).1 :: (rdMs k (r.drop (getM r).2.1.toNat)).1, (rdMs k (r.drop (getM r).2.1.toNat)).2)
def rdKs : Nat → List Int → List Int × List (List Msg)
  | 0, _ => ([], [])
  | k + 1, r =>
    let m := rdMs (rdSmall (rdSmall r 0).2.1 0).1.toNat (rdSmall (rdSmall r 0).2.1 0).2.1
    ((rdSmall r 0).1 :: (rdKs k m.2).1, m.1 :: (rdKs k m.2).2)
def readI (b : List Int) : Inn :=
  let N := min (rdSmall b 0).1.toNat 6
  let p := rdPs (N - 1) (rdSmall b 0).2.1
  (p.1, (rdKs N p.2).1, (rdKs N p.2).2)
def getI (b : List Int) : Inn × Int := if checkI (readI b) = 0 ∧ nnI (readI b) ∧ layI (readI b) = b then (readI b, 0) else (inn0, 4)
theorem rdPs_put : ∀ (l : List (List UInt8)) (r : List Int), (∀ p ∈ l, p.length ≤ 16) → rdPs l.length (l.flatMap putText ++ r) = (l, r)
  | [], r, _ => rfl
  | p :: l, r, h => by
    have h1 := h p List.mem_cons_self
    have ih := rdPs_put l r fun q hq => h q (List.mem_cons_of_mem _ hq)
    rw [List.flatMap_cons, List.append_assoc, List.length_cons, rdPs, rdText_put (by omega), ih]
theorem rdMs_put : ∀ (l : List Msg) (r : List Int), (∀ m ∈ l, mcheck m = 0 ∧ 0 ≤ m.1) → rdMs l.length (l.flatMap pm ++ r) = (l, r)
  | [], r, _ => rfl
  | m :: l, r, h => by
    obtain ⟨h1, h2⟩ := h m List.mem_cons_self
    have ih := rdMs_put l r fun q hq => h q (List.mem_cons_of_mem _ hq)
    rw [List.flatMap_cons, List.append_assoc, List.length_cons, rdMs, pm_ok h1, getM_put h2 h1 (List.prefix_append _ _)]
    dsimp only
    rw [Int.toNat_natCast, List.drop_left' rfl, ih]
def kfrom : List Int → List (List Msg) → List Int
  | k :: ks, b :: bs => kb k b ++ kfrom ks bs
  | _, _ => []
theorem kfrom_eq : ∀ (ks : List Int) (bs : List (List Msg)), bs.length = ks.length → ((List.range ks.length).flatMap fun j => kb (ks.getD j 0) (bs.getD j [])) = kfrom ks bs
  | [], [], _ => rfl
  | k :: ks, b :: bs, h => by
    rw [List.length_cons, List.range_succ_eq_map, List.flatMap_cons, List.flatMap_map, kfrom, ← kfrom_eq ks bs (by simpa using h)]
    rfl
theorem layI_eq {n : Inn} (h : n.2.2.length = n.2.1.length) : layI n = putSmall (n.2.1.length : Nat) ++ (n.1.flatMap putText ++ kfrom n.2.1 n.2.2) := by
  rw [layI, kbs, kfrom_eq _ _ h, List.append_assoc]
theorem rdKs_put : ∀ (ks : List Int) (bs : List (List Msg)), bs.length = ks.length → (∀ k ∈ ks, 0 ≤ k ∧ k ≤ 1099511627776) → (∀ b ∈ bs, b.length ≤ 1099511627776 ∧ ∀ m ∈ b, mcheck m = 0 ∧ 0 ≤ m.1) → rdKs ks.length (kfrom ks bs) = (ks, bs)
  | [], [], _, _, _ => rfl
  | k :: ks, b :: bs, h, hk, hb => by
    obtain ⟨h1, h2⟩ := hk k List.mem_cons_self
    obtain ⟨h3, h4⟩ := hb b List.mem_cons_self
    have ih := rdKs_put ks bs (by simpa using h) (fun x hx => hk x (List.mem_cons_of_mem _ hx)) fun x hx => hb x (List.mem_cons_of_mem _ hx)
    rw [List.length_cons, kfrom, kb, max0_ok h1, List.append_assoc, List.append_assoc, rdKs, rdSmall_put h1 h2]
    dsimp only
    rw [rdSmall_put (Int.natCast_nonneg _) (by omega)]
    dsimp only
    rw [Int.toNat_natCast, rdMs_put b _ h4]
    dsimp only
    rw [ih]
theorem pms_ge : ∀ {b : List Msg}, (∀ m ∈ b, mcheck m = 0) → b.length ≤ (b.flatMap pm).length
  | [], _ => Nat.le_refl _
  | m :: b, h => by
    have h1 := putM_pos m
    have ih := pms_ge (b := b) fun x hx => h x (List.mem_cons_of_mem _ hx)
    rw [List.flatMap_cons, List.length_append, List.length_cons, pm_ok (h m List.mem_cons_self)]; omega
theorem kfrom_ge : ∀ {ks : List Int} {bs : List (List Msg)}, bs.length = ks.length → (∀ b ∈ bs, ∀ m ∈ b, mcheck m = 0) → ks.length + bs.flatten.length ≤ (kfrom ks bs).length
  | [], [], _, _ => by simp [kfrom]
  | k :: ks, b :: bs, h, hb => by
    have h1 := pms_ge (hb b List.mem_cons_self)
    have h2 := putSmall_len (max0 k)
    have ih := kfrom_ge (ks := ks) (bs := bs) (by simpa using h) fun x hx => hb x (List.mem_cons_of_mem _ hx)
    rw [kfrom, kb, List.length_append, List.length_append, List.length_append, List.flatten_cons, List.length_append, List.length_cons]; omega
theorem ValI.bl {n : Inn} (h : ValI n) {b : List Msg} (hb : b ∈ n.2.2) : b.length ≤ 1016 := by
  have h1 := h.sz
  have h2 := kfrom_ge h.w1 h.ms
  have h3 := (List.sublist_flatten_of_mem hb).length_le
  rw [layI_eq h.w1, List.length_append, List.length_append] at h1
  omega
theorem readI_put {n : Inn} (h : checkI n = 0) (h0 : nnI n) : readI (layI n) = n := by
  have v := valI h
  have hr := rdKs_put n.2.1 n.2.2 v.w1 v.ks fun b hb => ⟨by have := v.bl hb; omega, fun m hm => ⟨v.ms b hb m hm, h0 b hb m hm⟩⟩
  have hp := rdPs_put n.1 (kfrom n.2.1 n.2.2) v.ps
  have h1 := v.k6
  have h2 := v.w2
  rw [layI_eq v.w1, readI, rdSmall_put (Int.natCast_nonneg _) (by omega)]
  dsimp only
  rw [Int.toNat_natCast, Nat.min_eq_left h1, show n.2.1.length - 1 = n.1.length by omega, hp]
  dsimp only
  rw [hr]
theorem getI_put {n : Inn} {b : List Int} (h : checkI n = 0) (h0 : nnI n) (hb : layI n = b) : getI b = (n, 0) := by
  subst hb
  rw [getI, readI_put h h0, if_pos ⟨h, h0, rfl⟩]
theorem getI_not {b : List Int} (h : ∀ n, checkI n = 0 → nnI n → layI n ≠ b) : getI b = (inn0, 4) := by
  rw [getI, if_neg fun hc => h _ hc.1 hc.2.1 hc.2.2]
theorem isB_flatI {α : Type} {f : α → List Int} (h : ∀ a, isB (f a)) (l : List α) : isB (l.flatMap f) := fun x hx => by
  obtain ⟨a, _, ha⟩ := List.mem_flatMap.1 hx
  exact h a x ha
theorem isB_pm (m : Msg) (h0 : 0 ≤ m.1) : isB (pm m) := by
  rw [pm, putR12]; split
  · rename_i h; exact isB_M h0 (by have := (mcheck_ok h).kind; omega)
  · intro x hx; simp at hx
theorem isB_kfrom : ∀ (ks : List Int) (bs : List (List Msg)), (∀ b ∈ bs, ∀ m ∈ b, 0 ≤ m.1) → isB (kfrom ks bs)
  | [], _, _ => fun x hx => by simp [kfrom] at hx
  | _ :: _, [], _ => fun x hx => by simp [kfrom] at hx
  | k :: ks, b :: bs, h => by
    rw [kfrom, kb]
    refine isB_append (isB_append (isB_small _) (isB_append (isB_small _) fun x hx => ?_)) (isB_kfrom ks bs fun c hc => h c (List.mem_cons_of_mem _ hc))
    obtain ⟨m, hm, ha⟩ := List.mem_flatMap.1 hx
    exact isB_pm m (h b List.mem_cons_self m hm) x ha
theorem isB_layI {n : Inn} (hw : n.2.2.length = n.2.1.length) (h0 : nnI n) : isB (layI n) := by
  rw [layI_eq hw]
  exact isB_append (isB_small _) (isB_append (isB_flatI isB_put _) (isB_kfrom _ _ h0))
theorem putI_zero {n : Inn} (h : (putI n).2 = 0) : checkI n = 0 ∧ (putI n).1 = layI n := by
  unfold putI at h ⊢
  split at h
  · rename_i hc; rw [if_pos hc]; exact ⟨hc, rfl⟩
  · rename_i hc; exact absurd h hc
theorem putI_not {n : Inn} (h : ¬ (putI n).2 = 0) : ¬ checkI n = 0 := fun hc => h (by unfold putI; rw [if_pos hc])
theorem finI_bad {b : List Int} {acc : Inn} (h : ∀ n, checkI n = 0 → nnI n → layI n = b → acc = n) (hp : ¬ (putI acc).2 = 0) : getI b = (inn0, 4) := getI_not fun n hc h0 hb => by
  have := h n hc h0 hb
  subst this
  exact putI_not hp hc
theorem finI_not {b : List Int} {acc : Inn} (h : ∀ n, checkI n = 0 → nnI n → layI n = b → acc = n) (hp : (putI acc).2 = 0) (hn : ¬ strOfBytes (putI acc).1 = strOfBytes b) : getI b = (inn0, 4) := getI_not fun n hc h0 hb => by
  have := h n hc h0 hb
  subst this
  rw [(putI_zero hp).2, hb] at hn
  exact hn rfl
theorem finI_yes {b : List Int} {acc : Inn} (hB : isB b) (h0 : nnI acc) (hp : (putI acc).2 = 0) (hn : strOfBytes (putI acc).1 = strOfBytes b) : getI b = (acc, 0) := by
  obtain ⟨h1, h2⟩ := putI_zero hp
  rw [h2] at hn
  exact getI_put h1 h0 (str_inj (isB_layI (valI h1).w1 h0) hB hn)
theorem getM_nn {b : List Int} (hB : isB b) : 0 ≤ (getM b).1.1 := by
  cases b with
  | nil => exact Int.le_refl 0
  | cons k r =>
    rw [getM]
    split
    · exact (hB k List.mem_cons_self).1
    · exact Int.le_refl 0
theorem getM_cases (b : List Int) : getM b = (msg0, 0, 4) ∨ ∃ m, mcheck m = 0 ∧ putM m <+: b ∧ getM b = (m, (((putM m).length : Nat) : Int), 0) := by
  cases b with
  | nil => exact .inl rfl
  | cons k r =>
    rw [getM]
    split
    · rename_i h; exact .inr ⟨_, h.1, (preB_iff _ _).1 h.2, rfl⟩
    · exact .inl rfl
theorem getM_step {b : List Int} (h : (getM b).2.2 = 0) : 1 ≤ (getM b).2.1 ∧ (getM b).2.1 ≤ b.length := by
  rcases getM_cases b with h1 | ⟨m, _, h2, h3⟩
  · rw [h1] at h; exact absurd h (by decide)
  · have := putM_pos m
    have := h2.length_le
    rw [h3]; dsimp only; omega
theorem rdText_max9 (b : List Int) (e : Int) {m : Int} (h : 0 ≤ m) : ((rdText b e m).1.length : Int) ≤ m := by
  unfold rdText
  repeat' split
  all_goals first
    | (simp; omega)
    | (dsimp only at *; omega)
    | skip
end Go.Proofs.Ytjifalccioebnaa
