import Derived.Test.YtkmfjlfejdoehaaGreatQ9
import Derived.Test.YtkmfjlfejdoehaaGreatEng4
/- Texts, one behind the other. -/
set_option linter.unusedVariables false
set_option linter.unusedSimpArgs false
set_option maxRecDepth 8000
set_option maxHeartbeats 4000000
namespace Go.Proofs.YtkmfjlfejdoehaaGreat
open Go.Eng
theorem sleN (x b : List UInt8) : (sless x b || x == b) = !sless b x := by
  cases h : sless b x with
  | true =>
    have h1 := sless_iff.1 h
    have h2 : sless x b = false := by rw [sless_eq]; exact decide_eq_false (slt_asymm h1)
    have h3 : ¬ x = b := fun hc => by rw [hc] at h1; exact slt_irrefl _ h1
    simp [h2, h3]
  | false =>
    by_cases h1 : x < b
    · simp [sless_iff.2 h1]
    · have : x = b := slt_total h1 (fun hc => by rw [sless_iff.2 hc] at h; cases h)
      simp [this]
def bigT (p : List UInt8) : Bool := decide (((p.length : Nat) : Int) > 16)
def outK (k : Int) : Bool := decide (k < 0) || decide (k > 1099511627776)
def lBig : LSpec := ⟨.str, .bool, [], fun v _ => bigT v⟩
theorem fBig : FnOk Tryz.prog 242 := ⟨_, Tryz.func242, by decide, rfl⟩
theorem pBig : PSound Tryz.prog 242 lBig.p := by
  refine psound (T := tab) (S := (spOf [])) (keep := k242) (by kernel_rfl) tabOk spNil (by kernel_rfl) Tryz.func242 (by kernel_rfl) (by decide) fun xs hg hp => ?_
  obtain ⟨p, ⟨⟩⟩ := xs
  show vfun tab _ k242 Tryz.f242 [.s p] [] _
  refine Ev.out ?_
  repeat' (first | ((with_reducible refine Ev.mk ?_); conv => whnf) | (with_reducible refine And.intro ?_ ?_) | (intro h))
  exact Leaf.mk rfl
def lOutK : LSpec := ⟨.int .i64, .bool, [], fun v _ => outK v⟩
theorem fOutK : FnOk Tryz.prog 217 := ⟨_, Tryz.func217, by decide, rfl⟩
theorem pOutK : PSound Tryz.prog 217 lOutK.p := by
  refine psound (T := tab) (S := (spOf [])) (keep := k217) (by kernel_rfl) tabOk spNil (by kernel_rfl) Tryz.func217 (by kernel_rfl) (by decide) fun xs hg hp => ?_
  obtain ⟨k, ⟨⟩⟩ := xs
  change Int at k
  show vfun tab _ k217 Tryz.f217 [.i .i64 k] [] _
  refine Ev.out ?_
  repeat' (first | ((with_reducible refine Ev.mk ?_); conv => whnf) | (with_reducible refine And.intro ?_ ?_) | (intro h))
  · refine Leaf.mk (ret1 (show true = outK k from ?_))
    rw [outK, show decide (k < 0) = true from ‹_›]; rfl
  · refine Leaf.mk (ret1 (show decide (k > 1099511627776) = outK k from ?_))
    rw [outK, show decide (k < 0) = false from ‹_›]; rfl
abbrev S8 : Type := List UInt8
abbrev I64T : Ty := .int .i64
def sIndexFuncS : PSpec := ⟨[.d (.slice .str), .lam .str .bool], [⟨false, [.d (.int .i64)]⟩], fun _ => True, fun x => ((idxF x.2.1 x.1 0, ()), ())⟩
theorem fIndexFuncS : FnOk Tryz.prog 254 := ⟨_, Tryz.func254, by decide, rfl⟩
theorem pIndexFuncS : PSound Tryz.prog 254 sIndexFuncS := by
  refine psound (T := tab) (S := (spOf [])) (keep := k254) (by kernel_rfl) tabOk spNil (by kernel_rfl) Tryz.func254 (by kernel_rfl) (by decide) fun xs hg hp => ?_
  obtain ⟨xs, p, ⟨⟩⟩ := xs
  obtain ⟨⟨hl, -⟩, -⟩ := hg
  change List S8 at xs
  change S8 → Bool at p
  have hl := len63 hl
  clear hp
  show vfun tab _ k254 Tryz.f254 [.sl .str xs, .lam .str .bool p] [] _
  refine Ev.out ?_
  repeat' (first | ((with_reducible refine Ev.mk ?_); conv => whnf) | (with_reducible refine And.intro ?_ ?_) | (intro h))
  refine LoopVC.on (fun i : Nat => [(8, .i .i64 i)]) (fun _ => []) (fun i => i ≤ xs.length ∧ idxF p xs 0 = idxF p (xs.drop i) i) (fun i => xs.length - i) 0 rfl ⟨by omega, by simp⟩ ?_
  intro i ⟨hi, he⟩
  repeat' (first | ((with_reducible refine Ev.mk ?_); conv => whnf) | (with_reducible refine And.intro ?_ ?_) | (intro h))
  all_goals (try simp only [decide_eq_true_eq, decide_eq_false_iff_not, beq_iff_eq, bne_iff_ne, beq_eq_false_iff_ne, bne_eq_false_iff_eq, Int.toNat_natCast, ge_iff_le, gt_iff_lt, Bool.not_eq_true', Bool.not_eq_false', Int.not_lt, Int.not_le, ne_eq] at *)
  all_goals (try dsimp only [Ty.den, Ty.dflt, .str] at *)
  all_goals (try simp only [eq4, ne4, eq3, ne3, eq2, ne2, Prod.eta, List.length_cons, List.length_nil, List.length_append, Nat.zero_add] at *)
  all_goals (try simp (disch := omega) only [wrap64] at *)
  all_goals try first | exact leafDraw (by kernel_rfl) | exact Leaf.mk trivial | (refine Leaf.mk ?_; omega) | (refine Leaf.mk ?_; unfold maxLen; omega)
  all_goals first
    | (rw [drop_end (by omega)] at he; exact Leaf.mk (ret1 he.symm))
    | (rw [drop_at [] (by omega), idxF, if_pos (by assumption)] at he; exact Leaf.mk (ret1 he.symm))
    | (rw [drop_at [] (by omega), idxF, if_neg (by simp_all)] at he; exact Leaf.mk ⟨i + 1, rfl, ⟨by omega, he⟩, by omega⟩)
def sContainsFuncS : PSpec := ⟨[.d (.slice .str), .lam .str .bool], [⟨false, [.d .bool]⟩], fun _ => True, fun x => ((List.any x.1 x.2.1, ()), ())⟩
theorem fContainsFuncS : FnOk Tryz.prog 241 := ⟨_, Tryz.func241, by decide, rfl⟩
theorem pContainsFuncS : PSound Tryz.prog 241 sContainsFuncS := by
  refine psound (T := tab) (S := (spOf [(254, sIndexFuncS.spec (lsOf []))])) (keep := k241) (by kernel_rfl) tabOk (spCons (pOk pIndexFuncS fIndexFuncS (by decide) lsNil) spNil) (by kernel_rfl) Tryz.func241 (by kernel_rfl) (by decide) fun xs hg hp => ?_
  obtain ⟨xs, p, ⟨⟩⟩ := xs
  change List S8 at xs
  change S8 → Bool at p
  show vfun tab _ k241 Tryz.f241 [.sl .str xs, .lam .str .bool p] [] _
  refine Ev.out ?_
  repeat' (first | ((with_reducible refine Ev.mk ?_); conv => whnf) | (with_reducible refine And.intro ?_ ?_) | (intro h))
  · exact Leaf.mk trivial
  · exact Leaf.mk (ret1 (idxF_any xs 0))
def sIndexFuncI : PSpec := ⟨[.d (.slice I64T), .lam I64T .bool], [⟨false, [.d (.int .i64)]⟩], fun _ => True, fun x => ((idxF x.2.1 x.1 0, ()), ())⟩
theorem fIndexFuncI : FnOk Tryz.prog 243 := ⟨_, Tryz.func243, by decide, rfl⟩
theorem pIndexFuncI : PSound Tryz.prog 243 sIndexFuncI := by
  refine psound (T := tab) (S := (spOf [])) (keep := k243) (by kernel_rfl) tabOk spNil (by kernel_rfl) Tryz.func243 (by kernel_rfl) (by decide) fun xs hg hp => ?_
  obtain ⟨xs, p, ⟨⟩⟩ := xs
  obtain ⟨⟨hl, -⟩, -⟩ := hg
  change List Int at xs
  change Int → Bool at p
  have hl := len63 hl
  clear hp
  show vfun tab _ k243 Tryz.f243 [.sl I64T xs, .lam I64T .bool p] [] _
  refine Ev.out ?_
  repeat' (first | ((with_reducible refine Ev.mk ?_); conv => whnf) | (with_reducible refine And.intro ?_ ?_) | (intro h))
  refine LoopVC.on (fun i : Nat => [(8, .i .i64 i)]) (fun _ => []) (fun i => i ≤ xs.length ∧ idxF p xs 0 = idxF p (xs.drop i) i) (fun i => xs.length - i) 0 rfl ⟨by omega, by simp⟩ ?_
  intro i ⟨hi, he⟩
  repeat' (first | ((with_reducible refine Ev.mk ?_); conv => whnf) | (with_reducible refine And.intro ?_ ?_) | (intro h))
  all_goals (try simp only [decide_eq_true_eq, decide_eq_false_iff_not, beq_iff_eq, bne_iff_ne, beq_eq_false_iff_ne, bne_eq_false_iff_eq, Int.toNat_natCast, ge_iff_le, gt_iff_lt, Bool.not_eq_true', Bool.not_eq_false', Int.not_lt, Int.not_le, ne_eq] at *)
  all_goals (try dsimp only [Ty.den, Ty.dflt, I64T] at *)
  all_goals (try simp only [eq4, ne4, eq3, ne3, eq2, ne2, Prod.eta, List.length_cons, List.length_nil, List.length_append, Nat.zero_add] at *)
  all_goals (try simp (disch := omega) only [wrap64] at *)
  all_goals try first | exact leafDraw (by kernel_rfl) | exact Leaf.mk trivial | (refine Leaf.mk ?_; omega) | (refine Leaf.mk ?_; unfold maxLen; omega)
  all_goals first
    | (rw [drop_end (by omega)] at he; exact Leaf.mk (ret1 he.symm))
    | (rw [drop_at 0 (by omega), idxF, if_pos (by assumption)] at he; exact Leaf.mk (ret1 he.symm))
    | (rw [drop_at 0 (by omega), idxF, if_neg (by simp_all)] at he; exact Leaf.mk ⟨i + 1, rfl, ⟨by omega, he⟩, by omega⟩)
def sContainsFuncI : PSpec := ⟨[.d (.slice I64T), .lam I64T .bool], [⟨false, [.d .bool]⟩], fun _ => True, fun x => ((List.any x.1 x.2.1, ()), ())⟩
theorem fContainsFuncI : FnOk Tryz.prog 216 := ⟨_, Tryz.func216, by decide, rfl⟩
theorem pContainsFuncI : PSound Tryz.prog 216 sContainsFuncI := by
  refine psound (T := tab) (S := (spOf [(243, sIndexFuncI.spec (lsOf []))])) (keep := k216) (by kernel_rfl) tabOk (spCons (pOk pIndexFuncI fIndexFuncI (by decide) lsNil) spNil) (by kernel_rfl) Tryz.func216 (by kernel_rfl) (by decide) fun xs hg hp => ?_
  obtain ⟨xs, p, ⟨⟩⟩ := xs
  change List Int at xs
  change Int → Bool at p
  show vfun tab _ k216 Tryz.f216 [.sl I64T xs, .lam I64T .bool p] [] _
  refine Ev.out ?_
  repeat' (first | ((with_reducible refine Ev.mk ?_); conv => whnf) | (with_reducible refine And.intro ?_ ?_) | (intro h))
  · exact Leaf.mk trivial
  · exact Leaf.mk (ret1 (idxF_any xs 0))
def lastI (ps : List (List UInt8)) (i : Nat) : List UInt8 := if i = 0 then [] else ps.getD (i - 1) []
def UpT (ps : List (List UInt8)) (n : Nat) : Prop := ∀ j, j < n → sless (lastI ps j) (ps.getD j []) = true
instance (l : List (List UInt8)) (n : Nat) : Decidable (UpT l n) := by unfold UpT; infer_instance
theorem upT_step {l : List (List UInt8)} {i : Nat} (h : UpT l i) (h1 : sless (lastI l i) (l.getD i []) = true) : UpT l (i + 1) := fun j hj => by
  rcases Nat.lt_or_ge j i with hji | hji
  · exact h j hji
  · obtain rfl : j = i := by omega
    exact h1
theorem upT_not {l : List (List UInt8)} {i : Nat} (hl : i < l.length) (h : sless (lastI l i) (l.getD i []) = false) : ¬ UpT l l.length := fun hc => by
  have := hc i hl
  rw [h] at this; exact absurd this (by simp)
def pivE (ps : List (List UInt8)) : Int := if ps.any bigT = true then 5 else if UpT ps ps.length then 0 else 12
def sPivE : PSpec := ⟨[.d TsT], [⟨false, [.d (.int .i64)]⟩], fun _ => True, fun x => ((pivE x.1, ()), ())⟩
theorem fPivE : FnOk Tryz.prog 215 := ⟨_, Tryz.func215, by decide, rfl⟩
theorem pPivE : PSound Tryz.prog 215 sPivE := by
  refine psound (T := tab) (S := (spOf [(241, sContainsFuncS.spec (lsOf [(242, lBig)]))])) (keep := k215) (by kernel_rfl) tabOk (spCons (pOk pContainsFuncS fContainsFuncS (by decide) ((lsCons ⟨pBig, fBig⟩ lsNil))) spNil) (by kernel_rfl) Tryz.func215 (by kernel_rfl) (by decide) fun xs hg hp => ?_
  obtain ⟨ps, ⟨⟩⟩ := xs
  obtain ⟨⟨hl, -⟩, -⟩ := hg
  change List (List UInt8) at ps
  have hl := len63 hl
  clear hp
  show vfun tab _ k215 Tryz.f215 [.sl .str ps] [] _
  refine Ev.out ?_
  repeat' (first | ((with_reducible refine Ev.mk ?_); conv => whnf) | (with_reducible refine And.intro ?_ ?_) | (intro h))
  all_goals (try simp only [decide_eq_true_eq, decide_eq_false_iff_not, beq_iff_eq, bne_iff_ne, beq_eq_false_iff_ne, bne_eq_false_iff_eq, Int.toNat_natCast, ge_iff_le, gt_iff_lt, Bool.not_eq_true', Bool.not_eq_false', Int.not_lt, Int.not_le, ne_eq] at *)
  all_goals (try dsimp only [Ty.den, Ty.dflt, TsT, sContainsFuncS] at *)
  all_goals (try simp only [eq4, ne4, eq3, ne3, eq2, ne2, Prod.eta, List.length_cons, List.length_nil, List.length_append, Nat.zero_add] at *)
  all_goals (try simp (disch := omega) only [wrap64] at *)
  all_goals try first
    | exact Leaf.mk trivial
    | (refine Leaf.mk (ret1 (show (5 : Int) = pivE ps from ?_))
       rw [pivE, if_pos (show ps.any bigT = true from ‹_›)])
  have hany : ¬ ps.any bigT = true := by rw [show ps.any bigT = false from ‹_›]; simp
  refine LoopVC.on (fun i : Nat => [(3, .s (lastI ps i)), (10, .i .i64 i)]) (fun _ => []) (fun i => i ≤ ps.length ∧ UpT ps i) (fun i => ps.length - i) 0 rfl ⟨by omega, fun j hj => by omega⟩ ?_
  intro i ⟨hi, hu⟩
  repeat' (first | ((with_reducible refine Ev.mk ?_); conv => whnf) | (with_reducible refine And.intro ?_ ?_) | (intro h))
  all_goals (try simp only [sleN] at *)
  all_goals (try simp only [decide_eq_true_eq, decide_eq_false_iff_not, beq_iff_eq, bne_iff_ne, beq_eq_false_iff_ne, bne_eq_false_iff_eq, Int.toNat_natCast, ge_iff_le, gt_iff_lt, Bool.not_eq_true', Bool.not_eq_false', Int.not_lt, Int.not_le, ne_eq] at *)
  all_goals (try dsimp only [Ty.den, Ty.dflt, TsT] at *)
  all_goals (try simp only [eq4, ne4, eq3, ne3, eq2, ne2, Prod.eta, List.length_cons, List.length_nil, List.length_append, Nat.zero_add] at *)
  all_goals (try simp (disch := omega) only [wrap64] at *)
  all_goals try first | exact leafDraw (by kernel_rfl) | exact Leaf.mk trivial | (refine Leaf.mk ?_; omega) | (refine Leaf.mk ?_; unfold maxLen; omega)
  · refine Leaf.mk (ret1 (show (12 : Int) = pivE ps from ?_))
    rw [pivE, if_neg hany, if_neg (upT_not (by omega) h)]
  · exact Leaf.mk ⟨i + 1, rfl, ⟨by omega, upT_step hu h⟩, by omega⟩
  · refine Leaf.mk (ret1 (show (0 : Int) = pivE ps from ?_))
    rw [pivE, if_neg hany, if_pos (by rw [show ps.length = i by omega]; exact hu)]
def fnz : List Int → Int
  | [] => 0
  | e :: r => if e = 0 then fnz r else e
theorem fnz_at {α : Type} {f : α → Int} {l : List α} {i : Nat} (d : α) (h : i < l.length) : fnz ((l.drop i).map f) = if f (l.getD i d) = 0 then fnz ((l.drop (i + 1)).map f) else f (l.getD i d) := by
  rw [drop_at d h, List.map_cons, fnz]
def ew (n : Inn) (i : Int) (m : Msg) : Int := if mcheck m = 0 then (if m.1 = 0 ∧ ¬ ((routeI n.1 m.2.1 : Nat) : Int) = i then 12 else 0) else mcheck m
theorem ew_eq (n : Inn) (i : Int) (m : Msg) : ew n i m = if mcheck m = 0 then (if m.1 = 0 ∧ ¬ ((routeI n.1 m.2.1 : Nat) : Int) = i then 12 else 0) else mcheck m := rfl
def waitsI (n : Inn) (i : Nat) : Int := fnz ((n.2.2.getD i []).map (ew n i))
def sWaits : PSpec := ⟨[.d InT, .d (.int .i64)], [⟨false, [.d (.int .i64)]⟩], fun x => 0 ≤ x.2.1 ∧ x.2.1 < ((List.length x.1.2.2 : Nat) : Int) ∧ List.length x.1.2.2 ≤ 1000, fun x => ((waitsI x.1 x.2.1.toNat, ()), ())⟩
theorem fWaits : FnOk Tryz.prog 218 := ⟨_, Tryz.func218, by decide, rfl⟩
theorem pWaits : PSound Tryz.prog 218 sWaits := by
  refine psound (T := tab) (S := (spOf [(65, sMCheck.spec (lsOf [])), (244, sRoute.spec (lsOf []))])) (keep := k218) (by kernel_rfl) tabOk (spCons (pOk pMCheck fMCheck (by decide) lsNil) (spCons (pOk pRoute fRoute (by decide) lsNil) spNil)) (by kernel_rfl) Tryz.func218 (by kernel_rfl) (by decide) fun xs hg hp => ?_
  obtain ⟨⟨ps, ks, bs⟩, i, ⟨⟩⟩ := xs
  obtain ⟨⟨-, -, ⟨-, hgb⟩⟩, -⟩ := hg
  change List (List UInt8) at ps
  change List Int at ks
  change List (List Msg) at bs
  change Int at i
  change 0 ≤ i ∧ i < (bs.length : Int) ∧ bs.length ≤ 1000 at hp
  obtain ⟨i, rfl⟩ := Int.eq_ofNat_of_zero_le hp.1
  have hbl : (bs.getD i []).length ≤ 9223372036854775807 := len63 (hgb _ (getD_mem (xs := bs) [] (by omega))).1
  clear hgb
  show vfun tab _ k218 Tryz.f218 [.agg [.sl .str ps, .sl (.int .i64) ks, .sl (.slice MsgT) bs], .i .i64 i] [] _
  refine Ev.out ?_
  repeat' (first | ((with_reducible refine Ev.mk ?_); conv => whnf) | (with_reducible refine And.intro ?_ ?_) | (intro h))
  all_goals (try simp only [decide_eq_true_eq, decide_eq_false_iff_not, beq_iff_eq, bne_iff_ne, beq_eq_false_iff_ne, bne_eq_false_iff_eq, Int.toNat_natCast, ge_iff_le, gt_iff_lt, Bool.not_eq_true', Bool.not_eq_false', Int.not_lt, Int.not_le, ne_eq] at *)
  all_goals (try dsimp only [Ty.den, Ty.dflt, InT] at *)
  all_goals (try simp only [eq4, ne4, eq3, ne3, eq2, ne2, Prod.eta, List.length_cons, List.length_nil, List.length_append, Nat.zero_add] at *)
  all_goals (try simp (disch := omega) only [wrap64] at *)
  all_goals try first | exact leafDraw (by kernel_rfl) | exact Leaf.mk trivial | (refine Leaf.mk ?_; omega) | (refine Leaf.mk ?_; unfold maxLen; omega)
  refine LoopVC.on (fun j : Nat => [(14, .i .i64 j)]) (fun _ => []) (fun j => j ≤ (bs.getD i []).length ∧ waitsI (ps, ks, bs) i = fnz (((bs.getD i []).drop j).map (ew (ps, ks, bs) i))) (fun j => (bs.getD i []).length - j) 0 rfl ⟨by omega, rfl⟩ ?_
  intro j ⟨hj, he⟩
  repeat' (first | ((with_reducible refine Ev.mk ?_); conv => whnf) | (with_reducible refine And.intro ?_ ?_) | (intro h))
  all_goals (try simp only [decide_eq_true_eq, decide_eq_false_iff_not, beq_iff_eq, bne_iff_ne, beq_eq_false_iff_ne, bne_eq_false_iff_eq, Int.toNat_natCast, ge_iff_le, gt_iff_lt, Bool.not_eq_true', Bool.not_eq_false', Int.not_lt, Int.not_le, ne_eq] at *)
  all_goals (try dsimp only [Ty.den, Ty.dflt, InT, sMCheck, sRoute] at *)
  all_goals (try simp only [eq4, ne4, eq3, ne3, eq2, ne2, Prod.eta, List.length_cons, List.length_nil, List.length_append, Nat.zero_add] at *)
  all_goals (try simp (disch := omega) only [wrap64] at *)
  all_goals try first | exact leafDraw (by kernel_rfl) | exact Leaf.mk trivial | (refine Leaf.mk ?_; omega) | (refine Leaf.mk ?_; unfold maxLen; omega)
  all_goals
    have hat := fun h => fnz_at (f := ew (ps, ks, bs) i) (l := bs.getD i []) (i := j) msg0 h
    have hst : j < (bs.getD i []).length → ew (ps, ks, bs) i ((bs.getD i []).getD j msg0) = 0 → waitsI (ps, ks, bs) i = fnz (((bs.getD i []).drop (j + 1)).map (ew (ps, ks, bs) i)) := fun h h1 => by rw [he, hat h, if_pos h1]
    have hno : j < (bs.getD i []).length → ¬ ew (ps, ks, bs) i ((bs.getD i []).getD j msg0) = 0 → waitsI (ps, ks, bs) i = ew (ps, ks, bs) i ((bs.getD i []).getD j msg0) := fun h h1 => by rw [he, hat h, if_neg h1]
    have hew := ew_eq (ps, ks, bs) i ((bs.getD i []).getD j msg0)
    clear hat
  · rw [if_neg ‹¬ mcheck _ = 0›] at hew
    refine Leaf.mk (ret1 (show mcheck ((bs.getD i []).getD j msg0) = waitsI (ps, ks, bs) i from ?_))
    rw [hno (by omega) (by rw [hew]; assumption), hew]
  · rw [if_pos ‹mcheck _ = 0›, if_pos ⟨‹_›, ‹_›⟩] at hew
    refine Leaf.mk (ret1 (show (12 : Int) = waitsI (ps, ks, bs) i from ?_))
    rw [hno (by omega) (by omega), hew]
  · rw [if_pos ‹mcheck _ = 0›, if_neg (fun h => h.2 ‹_›)] at hew
    exact Leaf.mk ⟨j + 1, rfl, ⟨by omega, hst (by omega) hew⟩, by omega⟩
  · rw [if_pos ‹mcheck _ = 0›, if_neg (fun h => absurd h.1 ‹_›)] at hew
    exact Leaf.mk ⟨j + 1, rfl, ⟨by omega, hst (by omega) hew⟩, by omega⟩
  · rw [drop_end (by omega)] at he
    exact Leaf.mk (ret1 he.symm)
def waitE (n : Inn) : Int := fnz ((List.range n.2.2.length).map (waitsI n))
theorem range_getD {k i : Nat} (h : i < k) : (List.range k).getD i 0 = i := by simp [h]
def checkI (n : Inn) : Int := if wholeI n = false ∨ n.2.1.length < 2 ∨ 6 < n.2.1.length then 4 else if pivE n.1 = 0 then (if n.2.1.any outK = true then 9 else if waitE n = 0 then (if 1016 < sizeI n then 5 else 0) else waitE n) else pivE n.1
theorem checkI_form {n : Inn} (h : wholeI n = false ∨ n.2.1.length < 2 ∨ 6 < n.2.1.length) : checkI n = 4 := by rw [checkI, if_pos h]
theorem checkI_piv {n : Inn} (h : ¬ (wholeI n = false ∨ n.2.1.length < 2 ∨ 6 < n.2.1.length)) (h1 : ¬ pivE n.1 = 0) : checkI n = pivE n.1 := by rw [checkI, if_neg h, if_neg h1]
theorem checkI_kid {n : Inn} (h : ¬ (wholeI n = false ∨ n.2.1.length < 2 ∨ 6 < n.2.1.length)) (h1 : pivE n.1 = 0) (h2 : n.2.1.any outK = true) : checkI n = 9 := by rw [checkI, if_neg h, if_pos h1, if_pos h2]
theorem checkI_wait {n : Inn} (h : ¬ (wholeI n = false ∨ n.2.1.length < 2 ∨ 6 < n.2.1.length)) (h1 : pivE n.1 = 0) (h2 : n.2.1.any outK = false) (h3 : ¬ waitE n = 0) : checkI n = waitE n := by rw [checkI, if_neg h, if_pos h1, if_neg (by rw [h2]; simp), if_neg h3]
theorem checkI_big {n : Inn} (h : ¬ (wholeI n = false ∨ n.2.1.length < 2 ∨ 6 < n.2.1.length)) (h1 : pivE n.1 = 0) (h2 : n.2.1.any outK = false) (h3 : waitE n = 0) : checkI n = if 1016 < sizeI n then 5 else 0 := by rw [checkI, if_neg h, if_pos h1, if_neg (by rw [h2]; simp), if_pos h3]
def sICheck : PSpec := ⟨[.d InT], [⟨false, [.d (.int .i64)]⟩], fun x => IPre x.1, fun x => ((checkI x.1, ()), ())⟩
def sICheckR : PSpec := sICheck
theorem fICheck : FnOk Tryz.prog 173 := ⟨_, Tryz.func173, by decide, rfl⟩
theorem pICheck : PSound Tryz.prog 173 sICheck := by
  refine psound (T := tab) (S := (spOf [(181, sWhole.spec (lsOf [(217, lOutK)])), (215, sPivE.spec (lsOf [(217, lOutK)])), (216, sContainsFuncI.spec (lsOf [(217, lOutK)])), (218, sWaits.spec (lsOf [(217, lOutK)])), (123, sISize.spec (lsOf [(217, lOutK)]))])) (keep := k173) (by kernel_rfl) tabOk (spCons (pOk pWhole fWhole (by decide) ((lsCons ⟨pOutK, fOutK⟩ lsNil))) (spCons (pOk pPivE fPivE (by decide) ((lsCons ⟨pOutK, fOutK⟩ lsNil))) (spCons (pOk pContainsFuncI fContainsFuncI (by decide) ((lsCons ⟨pOutK, fOutK⟩ lsNil))) (spCons (pOk pWaits fWaits (by decide) ((lsCons ⟨pOutK, fOutK⟩ lsNil))) (spCons (pOk pISize fISize (by decide) ((lsCons ⟨pOutK, fOutK⟩ lsNil))) spNil))))) (by kernel_rfl) Tryz.func173 (by kernel_rfl) (by decide) fun xs hg hp => ?_
  obtain ⟨⟨ps, ks, bs⟩, ⟨⟩⟩ := xs
  clear hg
  change List (List UInt8) at ps
  change List Int at ks
  change List (List Msg) at bs
  change IPre (ps, ks, bs) at hp
  have hP := hp.p
  have hK := hp.k
  have hB := hp.b
  dsimp only at hP hK hB
  show vfun tab _ k173 Tryz.f173 [.agg [.sl .str ps, .sl (.int .i64) ks, .sl (.slice MsgT) bs]] [] _
  refine Ev.out ?_
  repeat' (first | ((with_reducible refine Ev.mk ?_); conv => whnf) | (with_reducible refine And.intro ?_ ?_) | (intro h))
  all_goals (try simp only [decide_eq_true_eq, decide_eq_false_iff_not, beq_iff_eq, bne_iff_ne, beq_eq_false_iff_ne, bne_eq_false_iff_eq, Int.toNat_natCast, ge_iff_le, gt_iff_lt, Bool.not_eq_true', Bool.not_eq_false', Int.not_lt, Int.not_le, ne_eq] at *)
  all_goals (try dsimp only [Ty.den, Ty.dflt, InT, sWhole, sPivE, sContainsFuncI] at *)
  all_goals (try simp only [eq4, ne4, eq3, ne3, eq2, ne2, Prod.eta, List.length_cons, List.length_nil, List.length_append, Nat.zero_add] at *)
  all_goals (try simp (disch := omega) only [wrap64] at *)
  all_goals try first | exact leafDraw (by kernel_rfl) | exact Leaf.mk trivial | (refine Leaf.mk ?_; omega) | (refine Leaf.mk ?_; unfold maxLen; omega)
  · exact Leaf.mk (ret1 (checkI_form (n := (ps, ks, bs)) (.inl ‹_›)).symm)
  · exact Leaf.mk (ret1 (checkI_form (n := (ps, ks, bs)) (.inr (.inl (show ks.length < 2 by omega)))).symm)
  · exact Leaf.mk (ret1 (checkI_form (n := (ps, ks, bs)) (.inr (.inr (show 6 < ks.length by omega)))).symm)
  all_goals
    have hwh : wholeI (ps, ks, bs) = true := ‹_›
    have hn : ¬ (wholeI (ps, ks, bs) = false ∨ ks.length < 2 ∨ 6 < ks.length) := by rw [hwh]; simp; omega
    have hw2 := (wholeI_iff.1 hwh).1
    dsimp only at hw2
  · exact Leaf.mk (ret1 (checkI_piv (n := (ps, ks, bs)) hn ‹_›).symm)
  · exact Leaf.mk (ret1 (checkI_kid (n := (ps, ks, bs)) hn ‹_› ‹_›).symm)
  have hk9 : ks.any outK = false := ‹_›
  have hp0 : pivE ps = 0 := ‹_›
  refine LoopVC.on (fun i : Nat => [(33, .i .i64 i)]) (fun _ => []) (fun i => i ≤ ks.length ∧ waitE (ps, ks, bs) = fnz (((List.range bs.length).drop i).map (waitsI (ps, ks, bs)))) (fun i => ks.length - i) 0 rfl ⟨by omega, rfl⟩ ?_
  intro i ⟨hi, he⟩
  repeat' (first | ((with_reducible refine Ev.mk ?_); conv => whnf) | (with_reducible refine And.intro ?_ ?_) | (intro h))
  all_goals (try simp only [decide_eq_true_eq, decide_eq_false_iff_not, beq_iff_eq, bne_iff_ne, beq_eq_false_iff_ne, bne_eq_false_iff_eq, Int.toNat_natCast, ge_iff_le, gt_iff_lt, Bool.not_eq_true', Bool.not_eq_false', Int.not_lt, Int.not_le, ne_eq] at *)
  all_goals (try dsimp only [Ty.den, Ty.dflt, InT, sWaits, sISize] at *)
  all_goals (try simp only [eq4, ne4, eq3, ne3, eq2, ne2, Prod.eta, List.length_cons, List.length_nil, List.length_append, Nat.zero_add] at *)
  all_goals (try simp (disch := omega) only [wrap64] at *)
  all_goals try first | exact leafDraw (by kernel_rfl) | exact Leaf.mk trivial | (refine Leaf.mk ?_; omega) | (refine Leaf.mk ?_; unfold maxLen; omega)
  all_goals try
    have hat := fnz_at (f := waitsI (ps, ks, bs)) (l := List.range bs.length) (i := i) 0 (by rw [List.length_range]; omega)
    rw [range_getD (by omega)] at hat
    rw [hat] at he
  · exact Leaf.mk (show 0 ≤ ((i : Nat) : Int) ∧ ((i : Nat) : Int) < ((bs.length : Nat) : Int) ∧ bs.length ≤ 1000 by omega)
  · rw [if_neg ‹¬ waitsI (ps, ks, bs) i = 0›] at he
    refine Leaf.mk (ret1 (show waitsI (ps, ks, bs) i = checkI (ps, ks, bs) from ?_))
    rw [checkI_wait (n := (ps, ks, bs)) hn hp0 hk9 (by rw [he]; assumption), he]
  · rw [if_pos ‹waitsI (ps, ks, bs) i = 0›] at he
    exact Leaf.mk ⟨i + 1, rfl, ⟨by omega, he⟩, by omega⟩
  all_goals
    rw [drop_end (by rw [List.length_range]; omega)] at he
    have hb := checkI_big (n := (ps, ks, bs)) hn hp0 hk9 he
  · refine Leaf.mk (ret1 (show (5 : Int) = checkI (ps, ks, bs) from ?_))
    rw [hb, if_pos (by omega)]
  · refine Leaf.mk (ret1 (show (0 : Int) = checkI (ps, ks, bs) from ?_))
    rw [hb, if_neg (by omega)]
end Go.Proofs.YtkmfjlfejdoehaaGreat

set_option linter.unusedVariables false
set_option linter.unusedSimpArgs false
set_option maxRecDepth 8000
set_option maxHeartbeats 4000000
namespace Go.Proofs.YtkmfjlfejdoehaaGreat
open Go.Eng
theorem lastI_pos {ps : List (List UInt8)} {i : Nat} (h : 0 < i) : lastI ps i = ps.getD (i - 1) [] := by rw [lastI, if_neg (by omega)]
theorem sless_nil {p : List UInt8} (h : ¬ p = []) : sless [] p = true := by
  cases p with
  | nil => exact absurd rfl h
  | cons x p => rfl
theorem sless_no (p : List UInt8) : sless p [] = false := by
  cases p with
  | nil => rfl
  | cons x p => rfl
theorem any_hit2 {α : Type} {p : α → Bool} {l : List α} {i : Nat} (d : α) (h : i < l.length) (hp : p (l.getD i d) = true) : l.any p = true := List.any_eq_true.2 ⟨_, getD_mem d h, hp⟩
theorem any_none {α : Type} {p : α → Bool} {l : List α} (d : α) (h : ∀ i, i < l.length → p (l.getD i d) = false) : l.any p = false := by
  rw [List.any_eq_false]
  intro x hx
  obtain ⟨i, hi, rfl⟩ := List.mem_iff_getElem.1 hx
  have := h i hi
  rw [List.getD_eq_getElem?_getD, List.getElem?_eq_getElem hi] at this
  simpa using this
theorem fICheckR : FnOk Tryz.prog 122 := ⟨_, Tryz.func122, by decide, rfl⟩
theorem pICheckR : PSound Tryz.prog 122 sICheckR := by
  refine psound (T := tab) (S := (spOf [(179, sWholeR.spec (lsOf [])), (70, sMCheckR.spec (lsOf [])), (180, sRouteR.spec (lsOf [])), (124, sISizeR.spec (lsOf []))])) (keep := k122) (by kernel_rfl) tabOk (spCons (pOk pWholeR fWholeR (by decide) lsNil) (spCons (pOk pMCheckR fMCheckR (by decide) lsNil) (spCons (pOk pRouteR fRouteR (by decide) lsNil) (spCons (pOk pISizeR fISizeR (by decide) lsNil) spNil)))) (by kernel_rfl) Tryz.func122 (by kernel_rfl) (by decide) fun xs hg hp => ?_
  obtain ⟨⟨ps, ks, bs⟩, ⟨⟩⟩ := xs
  obtain ⟨⟨-, -, ⟨-, hgb⟩⟩, -⟩ := hg
  change List (List UInt8) at ps
  change List Int at ks
  change List (List Msg) at bs
  change IPre (ps, ks, bs) at hp
  have hP := hp.p
  have hK := hp.k
  have hB := hp.b
  have hbl : ∀ i, i < bs.length → (bs.getD i []).length ≤ 9223372036854775807 := fun i hi => len63 (hgb _ (getD_mem (xs := bs) [] hi)).1
  clear hgb
  dsimp only at hP hK hB
  show vfun tab _ k122 Tryz.f122 [.agg [.sl .str ps, .sl (.int .i64) ks, .sl (.slice MsgT) bs]] [] _
  refine Ev.out ?_
  repeat' (first | ((with_reducible refine Ev.mk ?_); conv => whnf) | (with_reducible refine And.intro ?_ ?_) | (intro h))
  all_goals (try simp only [decide_eq_true_eq, decide_eq_false_iff_not, beq_iff_eq, bne_iff_ne, beq_eq_false_iff_ne, bne_eq_false_iff_eq, Int.toNat_natCast, ge_iff_le, gt_iff_lt, Bool.not_eq_true', Bool.not_eq_false', Int.not_lt, Int.not_le, ne_eq] at *)
  all_goals (try dsimp only [Ty.den, Ty.dflt, InT, sWholeR, sWhole] at *)
  all_goals (try simp only [eq4, ne4, eq3, ne3, eq2, ne2, Prod.eta, List.length_cons, List.length_nil, List.length_append, Nat.zero_add] at *)
  all_goals (try simp (disch := omega) only [wrap64] at *)
  all_goals try first | exact leafDraw (by kernel_rfl) | exact Leaf.mk trivial | (refine Leaf.mk ?_; omega) | (refine Leaf.mk ?_; unfold maxLen; omega)
  · exact Leaf.mk (ret1 (checkI_form (n := (ps, ks, bs)) (.inl ‹_›)).symm)
  · exact Leaf.mk (ret1 (checkI_form (n := (ps, ks, bs)) (.inr (.inl (show ks.length < 2 by omega)))).symm)
  · exact Leaf.mk (ret1 (checkI_form (n := (ps, ks, bs)) (.inr (.inr (show 6 < ks.length by omega)))).symm)
  have hwh : wholeI (ps, ks, bs) = true := ‹_›
  have hn : ¬ (wholeI (ps, ks, bs) = false ∨ ks.length < 2 ∨ 6 < ks.length) := by rw [hwh]; simp; omega
  have hw2 := (wholeI_iff.1 hwh).1
  dsimp only at hw2
  refine LoopVC.on (fun i : Nat => [(3, .i .i64 i)]) (fun _ => []) (fun i => i ≤ ps.length ∧ ∀ j, j < i → bigT (ps.getD j []) = false) (fun i => ps.length - i) 0 rfl ⟨by omega, fun j hj => by omega⟩ ?_
  intro i ⟨hi, hb⟩
  repeat' (first | ((with_reducible refine Ev.mk ?_); conv => whnf) | (with_reducible refine And.intro ?_ ?_) | (intro h))
  all_goals (try simp only [decide_eq_true_eq, decide_eq_false_iff_not, beq_iff_eq, bne_iff_ne, beq_eq_false_iff_ne, bne_eq_false_iff_eq, Int.toNat_natCast, ge_iff_le, gt_iff_lt, Bool.not_eq_true', Bool.not_eq_false', Int.not_lt, Int.not_le, ne_eq] at *)
  all_goals (try dsimp only [Ty.den, Ty.dflt, InT] at *)
  all_goals (try simp only [eq4, ne4, eq3, ne3, eq2, ne2, Prod.eta, List.length_cons, List.length_nil, List.length_append, Nat.zero_add] at *)
  all_goals (try simp (disch := omega) only [wrap64] at *)
  all_goals try first | exact leafDraw (by kernel_rfl) | exact Leaf.mk trivial | (refine Leaf.mk ?_; omega) | (refine Leaf.mk ?_; unfold maxLen; omega)
  · have hany : ps.any bigT = true := any_hit2 [] (show i < ps.length by omega) (decide_eq_true (by omega))
    refine Leaf.mk (ret1 (show (5 : Int) = checkI (ps, ks, bs) from ?_))
    have hpv : pivE ps = 5 := by rw [pivE, if_pos hany]
    rw [checkI_piv (n := (ps, ks, bs)) hn (by rw [hpv]; decide)]; exact hpv.symm
  · refine Leaf.mk ⟨i + 1, rfl, ⟨by omega, fun j hj => ?_⟩, by omega⟩
    rcases Nat.lt_or_ge j i with hji | hji
    · exact hb j hji
    · obtain rfl : j = i := by omega
      exact decide_eq_false (by omega)
  have hany : ¬ ps.any bigT = true := by rw [any_none (p := bigT) [] fun j hj => hb j (by omega)]; simp
  clear hb
  refine LoopVC.on (fun i : Nat => [(4, .i .i64 i)]) (fun _ => []) (fun i => i ≤ ps.length ∧ UpT ps i) (fun i => ps.length - i) 0 rfl ⟨by omega, fun j hj => by omega⟩ ?_
  intro i ⟨hi, hu⟩
  repeat' (first | ((with_reducible refine Ev.mk ?_); conv => whnf) | (with_reducible refine And.intro ?_ ?_) | (intro h))
  all_goals (try simp only [decide_eq_true_eq, decide_eq_false_iff_not, beq_iff_eq, bne_iff_ne, beq_eq_false_iff_ne, bne_eq_false_iff_eq, Int.toNat_natCast, ge_iff_le, gt_iff_lt, Bool.not_eq_true', Bool.not_eq_false', Int.not_lt, Int.not_le, ne_eq] at *)
  all_goals (try dsimp only [Ty.den, Ty.dflt, InT] at *)
  all_goals (try simp only [eq4, ne4, eq3, ne3, eq2, ne2, Prod.eta, List.length_cons, List.length_nil, List.length_append, Nat.zero_add] at *)
  all_goals (try simp (disch := omega) only [wrap64] at *)
  all_goals try first | exact leafDraw (by kernel_rfl) | exact Leaf.mk trivial | (refine Leaf.mk ?_; omega) | (refine Leaf.mk ?_; unfold maxLen; omega)
  all_goals (try rw [show ((i : Int) - 1).toNat = i - 1 by omega] at *)
  all_goals try rw [← lastI_pos (by omega)] at *
  · have hpv : pivE ps = 12 := by rw [pivE, if_neg hany, if_neg (upT_not (i := i) (by omega) (by rw [show ps.getD i [] = [] from ‹_›]; exact sless_no _))]
    refine Leaf.mk (ret1 (show (12 : Int) = checkI (ps, ks, bs) from ?_))
    rw [checkI_piv (n := (ps, ks, bs)) hn (by rw [hpv]; decide)]; exact hpv.symm
  · have hpv : pivE ps = 12 := by rw [pivE, if_neg hany, if_neg (upT_not (i := i) (by omega) ‹_›)]
    refine Leaf.mk (ret1 (show (12 : Int) = checkI (ps, ks, bs) from ?_))
    rw [checkI_piv (n := (ps, ks, bs)) hn (by rw [hpv]; decide)]; exact hpv.symm
  · exact Leaf.mk ⟨i + 1, rfl, ⟨by omega, upT_step hu ‹_›⟩, by omega⟩
  · exact Leaf.mk ⟨i + 1, rfl, ⟨by omega, upT_step hu (by rw [lastI, if_pos (by omega)]; exact sless_nil ‹_›)⟩, by omega⟩
  have hp0 : pivE ps = 0 := by rw [pivE, if_neg hany, if_pos (by rw [show ps.length = i by omega]; exact hu)]
  clear hu
  refine LoopVC.on (fun i : Nat => [(5, .i .i64 i)]) (fun _ => []) (fun i => i ≤ ks.length ∧ ∀ j, j < i → outK (ks.getD j 0) = false) (fun i => ks.length - i) 0 rfl ⟨by omega, fun j hj => by omega⟩ ?_
  intro i ⟨hi, hb⟩
  repeat' (first | ((with_reducible refine Ev.mk ?_); conv => whnf) | (with_reducible refine And.intro ?_ ?_) | (intro h))
  all_goals (try simp only [decide_eq_true_eq, decide_eq_false_iff_not, beq_iff_eq, bne_iff_ne, beq_eq_false_iff_ne, bne_eq_false_iff_eq, Int.toNat_natCast, ge_iff_le, gt_iff_lt, Bool.not_eq_true', Bool.not_eq_false', Int.not_lt, Int.not_le, ne_eq] at *)
  all_goals (try dsimp only [Ty.den, Ty.dflt, InT] at *)
  all_goals (try simp only [eq4, ne4, eq3, ne3, eq2, ne2, Prod.eta, List.length_cons, List.length_nil, List.length_append, Nat.zero_add] at *)
  all_goals (try simp (disch := omega) only [wrap64] at *)
  all_goals try first | exact leafDraw (by kernel_rfl) | exact Leaf.mk trivial | (refine Leaf.mk ?_; omega) | (refine Leaf.mk ?_; unfold maxLen; omega)
  · refine Leaf.mk (ret1 (show (9 : Int) = checkI (ps, ks, bs) from ?_))
    rw [checkI_kid (n := (ps, ks, bs)) hn hp0 (any_hit2 0 (show i < ks.length by omega) (by rw [outK, decide_eq_true (show ks.getD i 0 < 0 from ‹_›)]; rfl))]
  · refine Leaf.mk (ret1 (show (9 : Int) = checkI (ps, ks, bs) from ?_))
    rw [checkI_kid (n := (ps, ks, bs)) hn hp0 (any_hit2 0 (show i < ks.length by omega) (by rw [outK, decide_eq_true (show ks.getD i 0 > 1099511627776 from ‹_›), Bool.or_true]))]
  · refine Leaf.mk ⟨i + 1, rfl, ⟨by omega, fun j hj => ?_⟩, by omega⟩
    rcases Nat.lt_or_ge j i with hji | hji
    · exact hb j hji
    · obtain rfl : j = i := by omega
      rw [outK, decide_eq_false (by omega), decide_eq_false (by omega)]; rfl
  have hk9 : ks.any outK = false := any_none (p := outK) 0 fun j hj => hb j (by omega)
  clear hb
  have hwe : waitE (ps, ks, bs) = fnz (((List.range bs.length).drop 0).map (waitsI (ps, ks, bs))) := rfl
  refine LoopVC.on (fun i : Nat => [(6, .i .i64 i)]) (fun _ => []) (fun i => i ≤ bs.length ∧ waitE (ps, ks, bs) = fnz (((List.range bs.length).drop i).map (waitsI (ps, ks, bs)))) (fun i => bs.length - i) 0 rfl ⟨by omega, rfl⟩ ?_
  intro i ⟨hi, he⟩
  repeat' (first | ((with_reducible refine Ev.mk ?_); conv => whnf) | (with_reducible refine And.intro ?_ ?_) | (intro h))
  all_goals (try simp only [decide_eq_true_eq, decide_eq_false_iff_not, beq_iff_eq, bne_iff_ne, beq_eq_false_iff_ne, bne_eq_false_iff_eq, Int.toNat_natCast, ge_iff_le, gt_iff_lt, Bool.not_eq_true', Bool.not_eq_false', Int.not_lt, Int.not_le, ne_eq] at *)
  all_goals (try dsimp only [Ty.den, Ty.dflt, InT] at *)
  all_goals (try simp only [eq4, ne4, eq3, ne3, eq2, ne2, Prod.eta, List.length_cons, List.length_nil, List.length_append, Nat.zero_add] at *)
  all_goals (try simp (disch := omega) only [wrap64] at *)
  all_goals try first | exact leafDraw (by kernel_rfl) | exact Leaf.mk trivial | (refine Leaf.mk ?_; omega) | (refine Leaf.mk ?_; unfold maxLen; omega)
  · have hat := fnz_at (f := waitsI (ps, ks, bs)) (l := List.range bs.length) (i := i) 0 (by rw [List.length_range]; omega)
    rw [range_getD (by omega)] at hat
    rw [hat] at he
    clear hat
    have hli := hbl i (by omega)
    refine LoopVC.on (fun j : Nat => [(7, .i .i64 j)]) (fun _ => []) (fun j => j ≤ (bs.getD i []).length ∧ waitsI (ps, ks, bs) i = fnz (((bs.getD i []).drop j).map (ew (ps, ks, bs) i))) (fun j => (bs.getD i []).length - j) 0 rfl ⟨by omega, rfl⟩ ?_
    intro j ⟨hj, hwi⟩
    repeat' (first | ((with_reducible refine Ev.mk ?_); conv => whnf) | (with_reducible refine And.intro ?_ ?_) | (intro h))
    all_goals (try simp only [decide_eq_true_eq, decide_eq_false_iff_not, beq_iff_eq, bne_iff_ne, beq_eq_false_iff_ne, bne_eq_false_iff_eq, Int.toNat_natCast, ge_iff_le, gt_iff_lt, Bool.not_eq_true', Bool.not_eq_false', Int.not_lt, Int.not_le, ne_eq] at *)
    all_goals (try dsimp only [Ty.den, Ty.dflt, InT, sMCheckR, sMCheck, sRouteR, sRoute] at *)
    all_goals (try simp only [eq4, ne4, eq3, ne3, eq2, ne2, Prod.eta, List.length_cons, List.length_nil, List.length_append, Nat.zero_add] at *)
    all_goals (try simp (disch := omega) only [wrap64] at *)
    all_goals try first | exact leafDraw (by kernel_rfl) | exact Leaf.mk trivial | (refine Leaf.mk ?_; omega) | (refine Leaf.mk ?_; unfold maxLen; omega)
    all_goals try
      have hat := fnz_at (f := ew (ps, ks, bs) i) (l := bs.getD i []) (i := j) msg0 (by omega)
      have hst : ew (ps, ks, bs) i ((bs.getD i []).getD j msg0) = 0 → waitsI (ps, ks, bs) i = fnz (((bs.getD i []).drop (j + 1)).map (ew (ps, ks, bs) i)) := fun h1 => by rw [hwi, hat, if_pos h1]
      have hno : ¬ ew (ps, ks, bs) i ((bs.getD i []).getD j msg0) = 0 → checkI (ps, ks, bs) = ew (ps, ks, bs) i ((bs.getD i []).getD j msg0) := fun h1 => by
        have hw : waitsI (ps, ks, bs) i = ew (ps, ks, bs) i ((bs.getD i []).getD j msg0) := by rw [hwi, hat, if_neg h1]
        rw [if_neg (by rw [hw]; exact h1)] at he
        rw [checkI_wait (n := (ps, ks, bs)) hn hp0 hk9 (by rw [he, hw]; exact h1), he, hw]
      have hew := ew_eq (ps, ks, bs) i ((bs.getD i []).getD j msg0)
      clear hat
    · rw [if_neg ‹¬ mcheck _ = 0›] at hew
      refine Leaf.mk (ret1 (show mcheck ((bs.getD i []).getD j msg0) = checkI (ps, ks, bs) from ?_))
      rw [hno (by rw [hew]; assumption), hew]
    · rw [if_pos ‹mcheck _ = 0›, if_pos ⟨‹_›, ‹_›⟩] at hew
      refine Leaf.mk (ret1 (show (12 : Int) = checkI (ps, ks, bs) from ?_))
      rw [hno (by omega), hew]
    · rw [if_pos ‹mcheck _ = 0›, if_neg (fun h => h.2 ‹_›)] at hew
      exact Leaf.mk ⟨j + 1, rfl, ⟨by omega, hst hew⟩, by omega⟩
    · rw [if_pos ‹mcheck _ = 0›, if_neg (fun h => absurd h.1 ‹_›)] at hew
      exact Leaf.mk ⟨j + 1, rfl, ⟨by omega, hst hew⟩, by omega⟩
    · rw [drop_end (by omega)] at hwi
      change waitsI (ps, ks, bs) i = 0 at hwi
      rw [if_pos hwi] at he
      exact Leaf.mk ⟨i + 1, rfl, ⟨by omega, he⟩, by omega⟩
  all_goals (try simp only [decide_eq_true_eq, decide_eq_false_iff_not, beq_iff_eq, bne_iff_ne, beq_eq_false_iff_ne, bne_eq_false_iff_eq, Int.toNat_natCast, ge_iff_le, gt_iff_lt, Bool.not_eq_true', Bool.not_eq_false', Int.not_lt, Int.not_le, ne_eq] at *)
  all_goals (try dsimp only [Ty.den, Ty.dflt, InT, sISizeR, sISize] at *)
  all_goals (try simp only [eq4, ne4, eq3, ne3, eq2, ne2, Prod.eta, List.length_cons, List.length_nil, List.length_append, Nat.zero_add] at *)
  all_goals (try simp (disch := omega) only [wrap64] at *)
  all_goals try
    rw [drop_end (by rw [List.length_range]; omega)] at he
    have hb := checkI_big (n := (ps, ks, bs)) hn hp0 hk9 he
  · exact Leaf.mk hp
  · refine Leaf.mk (ret1 (show (5 : Int) = checkI (ps, ks, bs) from ?_))
    rw [hb, if_pos (by omega)]
  · refine Leaf.mk (ret1 (show (0 : Int) = checkI (ps, ks, bs) from ?_))
    rw [hb, if_neg (by omega)]
end Go.Proofs.YtkmfjlfejdoehaaGreat

set_option linter.unusedVariables false
set_option linter.unusedSimpArgs false
set_option maxRecDepth 8000
set_option maxHeartbeats 4000000
namespace Go.Proofs.YtkmfjlfejdoehaaGreat
open Go.Eng
def putI (n : Inn) : List Int × Int := if checkI n = 0 then (layI n, 0) else ([], checkI n)
theorem retPi {u v : List Int × Int} (h : u = v) : (some ((u.1, ()), (u.2, ()), ()) : Option ((List Int × Unit) × (Int × Unit) × Unit)) = some ((v.1, ()), (v.2, ()), ()) := by rw [h]
theorem checkI_whole {n : Inn} (h : checkI n = 0) : wholeI n = true := by
  cases hw : wholeI n
  · rw [checkI_form (.inl hw)] at h; exact absurd h (by decide)
  · rfl
def sIPut : PSpec := ⟨[.d InT], [⟨false, [.o 5 (.int .u8)]⟩, ⟨false, [.d (.int .i64)]⟩], fun x => IPre x.1, fun x => (((putI x.1).1, ()), ((putI x.1).2, ()), ())⟩
def sIPutR : PSpec := sIPut
theorem fIPut : FnOk Tryz.prog 116 := ⟨_, Tryz.func116, by decide, rfl⟩
theorem pIPut : PSound Tryz.prog 116 sIPut := by
  refine psound (T := tab) (S := (spOf [(173, sICheck.spec (lsOf [])), (174, sLayI.spec (lsOf []))])) (keep := k116) (by kernel_rfl) tabOk (spCons (pOk pICheck fICheck (by decide) lsNil) (spCons (pOk pLayI fLayI (by decide) lsNil) spNil)) (by kernel_rfl) Tryz.func116 (by kernel_rfl) (by decide) fun xs hg hp => ?_
  obtain ⟨⟨ps, ks, bs⟩, ⟨⟩⟩ := xs
  clear hg
  change List (List UInt8) at ps
  change List Int at ks
  change List (List Msg) at bs
  change IPre (ps, ks, bs) at hp
  show vfun tab _ k116 Tryz.f116 [.agg [.sl .str ps, .sl (.int .i64) ks, .sl (.slice MsgT) bs]] [] _
  refine Ev.out ?_
  repeat' (first | ((with_reducible refine Ev.mk ?_); conv => whnf) | (with_reducible refine And.intro ?_ ?_) | (intro h))
  all_goals (try simp only [decide_eq_true_eq, decide_eq_false_iff_not, beq_iff_eq, bne_iff_ne, beq_eq_false_iff_ne, bne_eq_false_iff_eq, Int.toNat_natCast, ge_iff_le, gt_iff_lt, Bool.not_eq_true', Bool.not_eq_false', Int.not_lt, Int.not_le, ne_eq] at *)
  all_goals (try dsimp only [Ty.den, Ty.dflt, InT, sICheck, sICheckR, sLayI, sLayIR] at *)
  all_goals (try simp only [eq4, ne4, eq3, ne3, eq2, ne2, Prod.eta, List.length_cons, List.length_nil, List.length_append, Nat.zero_add] at *)
  all_goals (try simp (disch := omega) only [wrap64] at *)
  all_goals try first | exact leafDraw (by kernel_rfl) | exact Leaf.mk trivial | (refine Leaf.mk ?_; omega) | (refine Leaf.mk ?_; unfold maxLen; omega)
  all_goals first
    | exact Leaf.mk hp
    | exact Leaf.mk ⟨hp, checkI_whole ‹checkI (ps, ks, bs) = 0›⟩
    | (refine Leaf.mk (retPi (u := ([], checkI (ps, ks, bs))) (v := putI (ps, ks, bs)) ?_); rw [putI, if_neg ‹¬ checkI (ps, ks, bs) = 0›])
    | (refine Leaf.mk (retPi (u := (layI (ps, ks, bs), 0)) (v := putI (ps, ks, bs)) ?_); rw [putI, if_pos ‹checkI (ps, ks, bs) = 0›])
    | skip
theorem fIPutR : FnOk Tryz.prog 117 := ⟨_, Tryz.func117, by decide, rfl⟩
theorem pIPutR : PSound Tryz.prog 117 sIPutR := by
  refine psound (T := tab) (S := (spOf [(122, sICheckR.spec (lsOf [])), (175, sLayIR.spec (lsOf []))])) (keep := k117) (by kernel_rfl) tabOk (spCons (pOk pICheckR fICheckR (by decide) lsNil) (spCons (pOk pLayIR fLayIR (by decide) lsNil) spNil)) (by kernel_rfl) Tryz.func117 (by kernel_rfl) (by decide) fun xs hg hp => ?_
  obtain ⟨⟨ps, ks, bs⟩, ⟨⟩⟩ := xs
  clear hg
  change List (List UInt8) at ps
  change List Int at ks
  change List (List Msg) at bs
  change IPre (ps, ks, bs) at hp
  show vfun tab _ k117 Tryz.f117 [.agg [.sl .str ps, .sl (.int .i64) ks, .sl (.slice MsgT) bs]] [] _
  refine Ev.out ?_
  repeat' (first | ((with_reducible refine Ev.mk ?_); conv => whnf) | (with_reducible refine And.intro ?_ ?_) | (intro h))
  all_goals (try simp only [decide_eq_true_eq, decide_eq_false_iff_not, beq_iff_eq, bne_iff_ne, beq_eq_false_iff_ne, bne_eq_false_iff_eq, Int.toNat_natCast, ge_iff_le, gt_iff_lt, Bool.not_eq_true', Bool.not_eq_false', Int.not_lt, Int.not_le, ne_eq] at *)
  all_goals (try dsimp only [Ty.den, Ty.dflt, InT, sICheck, sICheckR, sLayI, sLayIR] at *)
  all_goals (try simp only [eq4, ne4, eq3, ne3, eq2, ne2, Prod.eta, List.length_cons, List.length_nil, List.length_append, Nat.zero_add] at *)
  all_goals (try simp (disch := omega) only [wrap64] at *)
  all_goals try first | exact leafDraw (by kernel_rfl) | exact Leaf.mk trivial | (refine Leaf.mk ?_; omega) | (refine Leaf.mk ?_; unfold maxLen; omega)
  all_goals first
    | exact Leaf.mk hp
    | exact Leaf.mk ⟨hp, checkI_whole ‹checkI (ps, ks, bs) = 0›⟩
    | (refine Leaf.mk (retPi (u := ([], checkI (ps, ks, bs))) (v := putI (ps, ks, bs)) ?_); rw [putI, if_neg ‹¬ checkI (ps, ks, bs) = 0›])
    | (refine Leaf.mk (retPi (u := (layI (ps, ks, bs), 0)) (v := putI (ps, ks, bs)) ?_); rw [putI, if_pos ‹checkI (ps, ks, bs) = 0›])
    | skip
end Go.Proofs.YtkmfjlfejdoehaaGreat

set_option linter.unusedVariables false
set_option linter.unusedSimpArgs false
set_option maxRecDepth 8000
set_option maxHeartbeats 4000000
namespace Go.Proofs.YtkmfjlfejdoehaaGreat
open Go.Eng
def sEqualS : PSpec := ⟨[.d (.slice .str), .d (.slice .str)], [⟨false, [.d .bool]⟩], fun _ => True, fun x => ((decide ((x.1 : List S8) = x.2.1), ()), ())⟩
theorem fEqualS : FnOk Tryz.prog 211 := ⟨_, Tryz.func211, by decide, rfl⟩
theorem pEqualS : PSound Tryz.prog 211 sEqualS := by
  refine psound (T := tab) (S := (spOf [])) (keep := k211) (by kernel_rfl) tabOk spNil (by kernel_rfl) Tryz.func211 (by kernel_rfl) (by decide) fun xs hg hp => ?_
  obtain ⟨xs, ys, ⟨⟩⟩ := xs
  obtain ⟨⟨hl, -⟩, ⟨hl2, -⟩, -⟩ := hg
  have hl := len63 hl
  have hl2 := len63 hl2
  change List S8 at xs ys
  change xs.length ≤ _ at hl
  change ys.length ≤ _ at hl2
  clear hp
  show vfun tab _ k211 Tryz.f211 [.sl .str xs, .sl .str ys] [] _
  refine Ev.out ?_
  repeat' (first | ((with_reducible refine Ev.mk ?_); conv => whnf) | (with_reducible refine And.intro ?_ ?_) | (intro h))
  all_goals (try simp only [decide_eq_true_eq, decide_eq_false_iff_not, beq_iff_eq, bne_iff_ne, beq_eq_false_iff_ne, bne_eq_false_iff_eq, Int.toNat_natCast, ge_iff_le, gt_iff_lt, Bool.not_eq_true', Bool.not_eq_false', Int.not_lt, Int.not_le, ne_eq] at *)
  all_goals (try dsimp only [Ty.den, Ty.dflt, .str] at *)
  all_goals (try simp only [eq4, ne4, eq3, ne3, eq2, ne2, Prod.eta, List.length_cons, List.length_nil, List.length_append, Nat.zero_add] at *)
  all_goals (try simp (disch := omega) only [wrap64] at *)
  · refine Leaf.mk (ret1 (show false = decide (xs = ys) from ?_))
    rw [eq_comm, decide_eq_false_iff_not]; intro hc; subst hc; omega
  refine LoopVC.on (fun i : Nat => [(13, .i .i64 i)]) (fun _ => []) (fun i => i ≤ xs.length ∧ xs.take i = ys.take i) (fun i => xs.length - i) 0 rfl ⟨by omega, by simp⟩ ?_
  intro i ⟨hi, he⟩
  repeat' (first | ((with_reducible refine Ev.mk ?_); conv => whnf) | (with_reducible refine And.intro ?_ ?_) | (intro h))
  all_goals (try simp only [decide_eq_true_eq, decide_eq_false_iff_not, beq_iff_eq, bne_iff_ne, beq_eq_false_iff_ne, bne_eq_false_iff_eq, Int.toNat_natCast, ge_iff_le, gt_iff_lt, Bool.not_eq_true', Bool.not_eq_false', Int.not_lt, Int.not_le, ne_eq] at *)
  all_goals (try dsimp only [Ty.den, Ty.dflt, .str] at *)
  all_goals (try simp only [eq4, ne4, eq3, ne3, eq2, ne2, Prod.eta, List.length_cons, List.length_nil, List.length_append, Nat.zero_add] at *)
  all_goals (try simp (disch := omega) only [wrap64] at *)
  all_goals try first | exact leafDraw (by kernel_rfl) | exact Leaf.mk trivial | (refine Leaf.mk ?_; omega) | (refine Leaf.mk ?_; unfold maxLen; omega)
  all_goals try rw [eq6] at h
  all_goals try rw [ne6] at h
  all_goals first
    | exact Leaf.mk (ret1 (show false = decide (xs = ys) by rw [eq_comm, decide_eq_false_iff_not]; exact same_not [] h))
    | exact Leaf.mk ⟨i + 1, rfl, ⟨by omega, same_step [] (by omega) he (by omega) h⟩, by omega⟩
    | exact Leaf.mk (ret1 (show true = decide (xs = ys) by rw [eq_comm, decide_eq_true_eq]; exact same_end (by omega) he (by omega)))
def sEqualI : PSpec := ⟨[.d (.slice I64T), .d (.slice I64T)], [⟨false, [.d .bool]⟩], fun _ => True, fun x => ((decide ((x.1 : List Int) = x.2.1), ()), ())⟩
theorem fEqualI : FnOk Tryz.prog 212 := ⟨_, Tryz.func212, by decide, rfl⟩
theorem pEqualI : PSound Tryz.prog 212 sEqualI := by
  refine psound (T := tab) (S := (spOf [])) (keep := k212) (by kernel_rfl) tabOk spNil (by kernel_rfl) Tryz.func212 (by kernel_rfl) (by decide) fun xs hg hp => ?_
  obtain ⟨xs, ys, ⟨⟩⟩ := xs
  obtain ⟨⟨hl, -⟩, ⟨hl2, -⟩, -⟩ := hg
  have hl := len63 hl
  have hl2 := len63 hl2
  change List Int at xs ys
  change xs.length ≤ _ at hl
  change ys.length ≤ _ at hl2
  clear hp
  show vfun tab _ k212 Tryz.f212 [.sl I64T xs, .sl I64T ys] [] _
  refine Ev.out ?_
  repeat' (first | ((with_reducible refine Ev.mk ?_); conv => whnf) | (with_reducible refine And.intro ?_ ?_) | (intro h))
  all_goals (try simp only [decide_eq_true_eq, decide_eq_false_iff_not, beq_iff_eq, bne_iff_ne, beq_eq_false_iff_ne, bne_eq_false_iff_eq, Int.toNat_natCast, ge_iff_le, gt_iff_lt, Bool.not_eq_true', Bool.not_eq_false', Int.not_lt, Int.not_le, ne_eq] at *)
  all_goals (try dsimp only [Ty.den, Ty.dflt, I64T] at *)
  all_goals (try simp only [eq4, ne4, eq3, ne3, eq2, ne2, Prod.eta, List.length_cons, List.length_nil, List.length_append, Nat.zero_add] at *)
  all_goals (try simp (disch := omega) only [wrap64] at *)
  · refine Leaf.mk (ret1 (show false = decide (xs = ys) from ?_))
    rw [eq_comm, decide_eq_false_iff_not]; intro hc; subst hc; omega
  refine LoopVC.on (fun i : Nat => [(13, .i .i64 i)]) (fun _ => []) (fun i => i ≤ xs.length ∧ xs.take i = ys.take i) (fun i => xs.length - i) 0 rfl ⟨by omega, by simp⟩ ?_
  intro i ⟨hi, he⟩
  repeat' (first | ((with_reducible refine Ev.mk ?_); conv => whnf) | (with_reducible refine And.intro ?_ ?_) | (intro h))
  all_goals (try simp only [decide_eq_true_eq, decide_eq_false_iff_not, beq_iff_eq, bne_iff_ne, beq_eq_false_iff_ne, bne_eq_false_iff_eq, Int.toNat_natCast, ge_iff_le, gt_iff_lt, Bool.not_eq_true', Bool.not_eq_false', Int.not_lt, Int.not_le, ne_eq] at *)
  all_goals (try dsimp only [Ty.den, Ty.dflt, I64T] at *)
  all_goals (try simp only [eq4, ne4, eq3, ne3, eq2, ne2, Prod.eta, List.length_cons, List.length_nil, List.length_append, Nat.zero_add] at *)
  all_goals (try simp (disch := omega) only [wrap64] at *)
  all_goals try first | exact leafDraw (by kernel_rfl) | exact Leaf.mk trivial | (refine Leaf.mk ?_; omega) | (refine Leaf.mk ?_; unfold maxLen; omega)
  all_goals try rw [eq6] at h
  all_goals try rw [ne6] at h
  all_goals first
    | exact Leaf.mk (ret1 (show false = decide (xs = ys) by rw [eq_comm, decide_eq_false_iff_not]; exact same_not 0 h))
    | exact Leaf.mk ⟨i + 1, rfl, ⟨by omega, same_step 0 (by omega) he (by omega) h⟩, by omega⟩
    | exact Leaf.mk (ret1 (show true = decide (xs = ys) by rw [eq_comm, decide_eq_true_eq]; exact same_end (by omega) he (by omega)))
def sEqualM : PSpec := ⟨[.d (.slice MsgT), .d (.slice MsgT)], [⟨false, [.d .bool]⟩], fun _ => True, fun x => ((decide ((x.1 : List Msg) = x.2.1), ()), ())⟩
theorem fEqualM : FnOk Tryz.prog 214 := ⟨_, Tryz.func214, by decide, rfl⟩
theorem pEqualM : PSound Tryz.prog 214 sEqualM := by
  refine psound (T := tab) (S := (spOf [])) (keep := k214) (by kernel_rfl) tabOk spNil (by kernel_rfl) Tryz.func214 (by kernel_rfl) (by decide) fun xs hg hp => ?_
  obtain ⟨xs, ys, ⟨⟩⟩ := xs
  obtain ⟨⟨hl, -⟩, ⟨hl2, -⟩, -⟩ := hg
  have hl := len63 hl
  have hl2 := len63 hl2
  change List Msg at xs ys
  change xs.length ≤ _ at hl
  change ys.length ≤ _ at hl2
  clear hp
  show vfun tab _ k214 Tryz.f214 [.sl MsgT xs, .sl MsgT ys] [] _
  refine Ev.out ?_
  repeat' (first | ((with_reducible refine Ev.mk ?_); conv => whnf) | (with_reducible refine And.intro ?_ ?_) | (intro h))
  all_goals (try simp only [decide_eq_true_eq, decide_eq_false_iff_not, beq_iff_eq, bne_iff_ne, beq_eq_false_iff_ne, bne_eq_false_iff_eq, Int.toNat_natCast, ge_iff_le, gt_iff_lt, Bool.not_eq_true', Bool.not_eq_false', Int.not_lt, Int.not_le, ne_eq] at *)
  all_goals (try dsimp only [Ty.den, Ty.dflt, MsgT] at *)
  all_goals (try simp only [eq4, ne4, eq3, ne3, eq2, ne2, Prod.eta, List.length_cons, List.length_nil, List.length_append, Nat.zero_add] at *)
  all_goals (try simp (disch := omega) only [wrap64] at *)
  · refine Leaf.mk (ret1 (show false = decide (xs = ys) from ?_))
    rw [eq_comm, decide_eq_false_iff_not]; intro hc; subst hc; omega
  refine LoopVC.on (fun i : Nat => [(13, .i .i64 i)]) (fun _ => []) (fun i => i ≤ xs.length ∧ xs.take i = ys.take i) (fun i => xs.length - i) 0 rfl ⟨by omega, by simp⟩ ?_
  intro i ⟨hi, he⟩
  repeat' (first | ((with_reducible refine Ev.mk ?_); conv => whnf) | (with_reducible refine And.intro ?_ ?_) | (intro h))
  all_goals (try simp only [decide_eq_true_eq, decide_eq_false_iff_not, beq_iff_eq, bne_iff_ne, beq_eq_false_iff_ne, bne_eq_false_iff_eq, Int.toNat_natCast, ge_iff_le, gt_iff_lt, Bool.not_eq_true', Bool.not_eq_false', Int.not_lt, Int.not_le, ne_eq] at *)
  all_goals (try dsimp only [Ty.den, Ty.dflt, MsgT] at *)
  all_goals (try simp only [eq4, ne4, eq3, ne3, eq2, ne2, Prod.eta, List.length_cons, List.length_nil, List.length_append, Nat.zero_add] at *)
  all_goals (try simp (disch := omega) only [wrap64] at *)
  all_goals try first | exact leafDraw (by kernel_rfl) | exact Leaf.mk trivial | (refine Leaf.mk ?_; omega) | (refine Leaf.mk ?_; unfold maxLen; omega)
  all_goals try rw [eq6] at h
  all_goals try rw [ne6] at h
  all_goals first
    | exact Leaf.mk (ret1 (show false = decide (xs = ys) by rw [eq_comm, decide_eq_false_iff_not]; exact same_not msg0 h))
    | exact Leaf.mk ⟨i + 1, rfl, ⟨by omega, same_step msg0 (by omega) he (by omega) h⟩, by omega⟩
    | exact Leaf.mk (ret1 (show true = decide (xs = ys) by rw [eq_comm, decide_eq_true_eq]; exact same_end (by omega) he (by omega)))
instance decBufs : DecidableEq (List (List Msg)) := inferInstance
instance decInn2 : DecidableEq (List Int × List (List Msg)) := inferInstance
instance decInn : DecidableEq Inn := inferInstanceAs (DecidableEq (List (List UInt8) × List Int × List (List Msg)))
def sameI (a b : Inn) : Bool := decide (a = b)
theorem sameI_no {a b : Inn} (h : ¬ a = b) : false = sameI a b := (decide_eq_false h).symm
theorem sameI_yes {a b : Inn} (h1 : a.1 = b.1) (h2 : a.2.1 = b.2.1) (h3 : a.2.2 = b.2.2) : true = sameI a b := (decide_eq_true (by obtain ⟨x, y, z⟩ := a; obtain ⟨u, v, w⟩ := b; dsimp only at *; rw [h1, h2, h3])).symm
def sISame : PSpec := ⟨[.d InT, .d InT], [⟨false, [.d .bool]⟩], fun x => List.length x.1.2.1 ≤ 100000 ∧ List.length x.1.2.2 ≤ 100000, fun x => ((sameI x.1 x.2.1, ()), ())⟩
def sISameR : PSpec := sISame
theorem fISameR : FnOk Tryz.prog 125 := ⟨_, Tryz.func125, by decide, rfl⟩
theorem pISameR : PSound Tryz.prog 125 sISameR := by
  refine psound (T := tab) (S := (spOf [(182, sSameT.spec (lsOf [])), (43, sSameM.spec (lsOf []))])) (keep := k125) (by kernel_rfl) tabOk (spCons (pOk pSameT fSameT (by decide) lsNil) (spCons (pOk pSameM fSameM (by decide) lsNil) spNil)) (by kernel_rfl) Tryz.func125 (by kernel_rfl) (by decide) fun xs hg hp => ?_
  obtain ⟨⟨ps, ks, bs⟩, ⟨ps1, ks1, bs1⟩, ⟨⟩⟩ := xs
  clear hg
  change List (List UInt8) at ps ps1
  change List Int at ks ks1
  change List (List Msg) at bs bs1
  change ks.length ≤ 100000 ∧ bs.length ≤ 100000 at hp
  obtain ⟨hk, hb⟩ := hp
  show vfun tab _ k125 Tryz.f125 [.agg [.sl .str ps, .sl (.int .i64) ks, .sl (.slice MsgT) bs], .agg [.sl .str ps1, .sl (.int .i64) ks1, .sl (.slice MsgT) bs1]] [] _
  refine Ev.out ?_
  repeat' (first | ((with_reducible refine Ev.mk ?_); conv => whnf) | (with_reducible refine And.intro ?_ ?_) | (intro h))
  all_goals (try simp only [decide_eq_true_eq, decide_eq_false_iff_not, beq_iff_eq, bne_iff_ne, beq_eq_false_iff_ne, bne_eq_false_iff_eq, Int.toNat_natCast, ge_iff_le, gt_iff_lt, Bool.not_eq_true', Bool.not_eq_false', Int.not_lt, Int.not_le, ne_eq] at *)
  all_goals (try dsimp only [Ty.den, Ty.dflt, InT, sSameT] at *)
  all_goals (try simp only [eq4, ne4, eq3, ne3, eq2, ne2, Prod.eta, List.length_cons, List.length_nil, List.length_append, Nat.zero_add] at *)
  all_goals (try simp (disch := omega) only [wrap64] at *)
  all_goals try first | exact leafDraw (by kernel_rfl) | exact Leaf.mk trivial | (refine Leaf.mk ?_; omega) | (refine Leaf.mk ?_; unfold maxLen; omega)
  all_goals try first
    | (refine Leaf.mk (ret1 (show false = sameI (ps, ks, bs) (ps1, ks1, bs1) from sameI_no fun h9 => ?_)); exact of_decide_eq_false (show decide (ps = ps1) = false from ‹_›) (congrArg (·.1) h9))
    | (refine Leaf.mk (ret1 (show false = sameI (ps, ks, bs) (ps1, ks1, bs1) from sameI_no fun h9 => ?_)); have := congrArg (·.2.1.length) h9; dsimp only at this; omega)
    | (refine Leaf.mk (ret1 (show false = sameI (ps, ks, bs) (ps1, ks1, bs1) from sameI_no fun h9 => ?_)); have := congrArg (·.2.2.length) h9; dsimp only at this; omega)
  have hps : ps = ps1 := of_decide_eq_true (show decide (ps = ps1) = true from ‹_›)
  refine LoopVC.on (fun i : Nat => [(5, .i .i64 i)]) (fun _ => []) (fun i => i ≤ ks.length ∧ ks.take i = ks1.take i) (fun i => ks.length - i) 0 rfl ⟨by omega, by simp⟩ ?_
  intro i ⟨hi, he⟩
  repeat' (first | ((with_reducible refine Ev.mk ?_); conv => whnf) | (with_reducible refine And.intro ?_ ?_) | (intro h))
  all_goals (try simp only [decide_eq_true_eq, decide_eq_false_iff_not, beq_iff_eq, bne_iff_ne, beq_eq_false_iff_ne, bne_eq_false_iff_eq, Int.toNat_natCast, ge_iff_le, gt_iff_lt, Bool.not_eq_true', Bool.not_eq_false', Int.not_lt, Int.not_le, ne_eq] at *)
  all_goals (try dsimp only [Ty.den, Ty.dflt, InT] at *)
  all_goals (try simp only [eq4, ne4, eq3, ne3, eq2, ne2, Prod.eta, List.length_cons, List.length_nil, List.length_append, Nat.zero_add] at *)
  all_goals (try simp (disch := omega) only [wrap64] at *)
  all_goals try first | exact leafDraw (by kernel_rfl) | exact Leaf.mk trivial | (refine Leaf.mk ?_; omega) | (refine Leaf.mk ?_; unfold maxLen; omega)
  all_goals try first
    | exact Leaf.mk (ret1 (show false = sameI (ps, ks, bs) (ps1, ks1, bs1) from sameI_no fun h9 => same_not 0 ‹_› (congrArg (·.2.1) h9)))
    | exact Leaf.mk ⟨i + 1, rfl, ⟨by omega, same_step 0 (by omega) he (by omega) ‹_›⟩, by omega⟩
  have hks : ks = ks1 := same_end (by omega) he (by omega)
  clear he
  refine LoopVC.on (fun i : Nat => [(6, .i .i64 i)]) (fun _ => []) (fun i => i ≤ bs.length ∧ bs.take i = bs1.take i) (fun i => bs.length - i) 0 rfl ⟨by omega, by simp⟩ ?_
  intro i ⟨hi, he⟩
  repeat' (first | ((with_reducible refine Ev.mk ?_); conv => whnf) | (with_reducible refine And.intro ?_ ?_) | (intro h))
  all_goals (try simp only [decide_eq_true_eq, decide_eq_false_iff_not, beq_iff_eq, bne_iff_ne, beq_eq_false_iff_ne, bne_eq_false_iff_eq, Int.toNat_natCast, ge_iff_le, gt_iff_lt, Bool.not_eq_true', Bool.not_eq_false', Int.not_lt, Int.not_le, ne_eq] at *)
  all_goals (try dsimp only [Ty.den, Ty.dflt, InT, sSameM] at *)
  all_goals (try simp only [eq4, ne4, eq3, ne3, eq2, ne2, Prod.eta, List.length_cons, List.length_nil, List.length_append, Nat.zero_add] at *)
  all_goals (try simp (disch := omega) only [wrap64] at *)
  all_goals try first | exact leafDraw (by kernel_rfl) | exact Leaf.mk trivial | (refine Leaf.mk ?_; omega) | (refine Leaf.mk ?_; unfold maxLen; omega)
  all_goals try first
    | exact Leaf.mk (ret1 (show false = sameI (ps, ks, bs) (ps1, ks1, bs1) from sameI_no fun h9 => same_not [] (of_decide_eq_false (show decide (bs.getD i [] = bs1.getD i []) = false from ‹_›)) (congrArg (·.2.2) h9)))
    | exact Leaf.mk ⟨i + 1, rfl, ⟨by omega, same_step [] (by omega) he (by omega) (of_decide_eq_true (show decide (bs.getD i [] = bs1.getD i []) = true from ‹_›))⟩, by omega⟩
    | exact Leaf.mk (ret1 (show true = sameI (ps, ks, bs) (ps1, ks1, bs1) from sameI_yes hps hks (show bs = bs1 from same_end (by omega) he (by omega))))
theorem fEqFM : FnOk Tryz.prog 213 := ⟨_, Tryz.func213, by decide, rfl⟩
noncomputable def iEqFM : Eng.Spec := inl tab (spOf [(214, sEqualM.spec (lsOf []))]) k213 Tryz.f213
theorem pEqFM : SpecOk Tryz.prog 213 iEqFM := inl_ok tabOk (spCons (pOk pEqualM fEqualM (by decide) lsNil) spNil) (by kernel_rfl) Tryz.func213 (by kernel_rfl)
theorem fISame : FnOk Tryz.prog 172 := ⟨_, Tryz.func172, by decide, rfl⟩
theorem pISame : PSound Tryz.prog 172 sISame := by
  refine psound (T := tab) (S := (spOf [(211, sEqualS.spec (lsOf [])), (212, sEqualI.spec (lsOf [])), (213, iEqFM), (214, sEqualM.spec (lsOf []))])) (keep := k172) (by kernel_rfl) tabOk (spCons (pOk pEqualS fEqualS (by decide) lsNil) (spCons (pOk pEqualI fEqualI (by decide) lsNil) (spCons (.inl ⟨pEqFM, fEqFM⟩) (spCons (pOk pEqualM fEqualM (by decide) lsNil) spNil)))) (by kernel_rfl) Tryz.func172 (by kernel_rfl) (by decide) fun xs hg hp => ?_
  obtain ⟨⟨ps, ks, bs⟩, ⟨ps1, ks1, bs1⟩, ⟨⟩⟩ := xs
  clear hg
  change List (List UInt8) at ps ps1
  change List Int at ks ks1
  change List (List Msg) at bs bs1
  change ks.length ≤ 100000 ∧ bs.length ≤ 100000 at hp
  obtain ⟨hk, hb⟩ := hp
  show vfun tab _ k172 Tryz.f172 [.agg [.sl .str ps, .sl (.int .i64) ks, .sl (.slice MsgT) bs], .agg [.sl .str ps1, .sl (.int .i64) ks1, .sl (.slice MsgT) bs1]] [] _
  refine Ev.out ?_
  repeat' (first | ((with_reducible refine Ev.mk ?_); conv => whnf) | (with_reducible refine And.intro ?_ ?_) | (intro h))
  all_goals (try simp only [decide_eq_true_eq, decide_eq_false_iff_not, beq_iff_eq, bne_iff_ne, beq_eq_false_iff_ne, bne_eq_false_iff_eq, Int.toNat_natCast, ge_iff_le, gt_iff_lt, Bool.not_eq_true', Bool.not_eq_false', Int.not_lt, Int.not_le, ne_eq] at *)
  all_goals (try dsimp only [Ty.den, Ty.dflt, InT, sEqualS, sEqualI] at *)
  all_goals (try simp only [eq4, ne4, eq3, ne3, eq2, ne2, Prod.eta, List.length_cons, List.length_nil, List.length_append, Nat.zero_add] at *)
  all_goals (try simp (disch := omega) only [wrap64] at *)
  all_goals try first | exact leafDraw (by kernel_rfl) | exact Leaf.mk trivial | (refine Leaf.mk ?_; omega) | (refine Leaf.mk ?_; unfold maxLen; omega)
  all_goals try first
    | exact Leaf.mk (ret1 (show false = sameI (ps, ks, bs) (ps1, ks1, bs1) from sameI_no fun h9 => of_decide_eq_false (show decide (ps = ps1) = false from ‹_›) (congrArg (·.1) h9)))
    | exact Leaf.mk (ret1 (show false = sameI (ps, ks, bs) (ps1, ks1, bs1) from sameI_no fun h9 => of_decide_eq_false (show decide (ks = ks1) = false from ‹_›) (congrArg (·.2.1) h9)))
    | (refine Leaf.mk (ret1 (show false = sameI (ps, ks, bs) (ps1, ks1, bs1) from sameI_no fun h9 => ?_)); have := congrArg (·.2.2.length) h9; dsimp only at this; omega)
  have hps : ps = ps1 := of_decide_eq_true (show decide (ps = ps1) = true from ‹_›)
  have hks : ks = ks1 := of_decide_eq_true (show decide (ks = ks1) = true from ‹_›)
  refine LoopVC.on (fun i : Nat => [(17, .i .i64 i)]) (fun _ => []) (fun i => i ≤ bs.length ∧ bs.take i = bs1.take i) (fun i => bs.length - i) 0 rfl ⟨by omega, by simp⟩ ?_
  intro i ⟨hi, he⟩
  repeat' (first | ((with_reducible refine Ev.mk ?_); conv => whnf) | (with_reducible refine And.intro ?_ ?_) | (intro h))
  all_goals (try simp only [decide_eq_true_eq, decide_eq_false_iff_not, beq_iff_eq, bne_iff_ne, beq_eq_false_iff_ne, bne_eq_false_iff_eq, Int.toNat_natCast, ge_iff_le, gt_iff_lt, Bool.not_eq_true', Bool.not_eq_false', Int.not_lt, Int.not_le, ne_eq] at *)
  all_goals (try dsimp only [Ty.den, Ty.dflt, InT, sEqualM] at *)
  all_goals (try simp only [eq4, ne4, eq3, ne3, eq2, ne2, Prod.eta, List.length_cons, List.length_nil, List.length_append, Nat.zero_add] at *)
  all_goals (try simp (disch := omega) only [wrap64] at *)
  all_goals try first | exact leafDraw (by kernel_rfl) | exact Leaf.mk trivial | (refine Leaf.mk ?_; omega) | (refine Leaf.mk ?_; unfold maxLen; omega)
  all_goals try first
    | exact Leaf.mk (ret1 (show false = sameI (ps, ks, bs) (ps1, ks1, bs1) from sameI_no fun h9 => same_not [] (of_decide_eq_false (show decide (bs.getD i [] = bs1.getD i []) = false from ‹_›)) (congrArg (·.2.2) h9)))
    | exact Leaf.mk ⟨i + 1, rfl, ⟨by omega, same_step [] (by omega) he (by omega) (of_decide_eq_true (show decide (bs.getD i [] = bs1.getD i []) = true from ‹_›))⟩, by omega⟩
    | exact Leaf.mk (ret1 (show true = sameI (ps, ks, bs) (ps1, ks1, bs1) from sameI_yes hps hks (show bs = bs1 from same_end (by omega) he (by omega))))
end Go.Proofs.YtkmfjlfejdoehaaGreat
