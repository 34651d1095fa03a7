import Derived.Test.YtcgfolhnoggjfaaJ1



set_option linter.unusedVariables false
set_option linter.unusedSimpArgs false
set_option maxRecDepth 8000
set_option maxHeartbeats 4000000
namespace Go.Proofs.Ytcgfolhnoggjfaa
open Go.Eng
def leS (k p : Str) : Bool := sless p k || p == k
def placeF (l : List Str) (k : Str) : Nat := l.countP (leS k)
theorem pl_in {k : Str} {xs : List Str} {i : Nat} (h : i < xs.length) (hs : (sless (xs.getD i []) k || xs.getD i [] == k) = true) : (xs.take (i + 1)).countP (leS k) = (xs.take i).countP (leS k) + 1 := by
  rw [countP_at [] h, if_pos (show leS k (xs.getD i []) = true from hs)]
theorem pl_out {k : Str} {xs : List Str} {i : Nat} (h : i < xs.length) (hs : (sless (xs.getD i []) k || xs.getD i [] == k) = false) : (xs.take (i + 1)).countP (leS k) = (xs.take i).countP (leS k) := by
  rw [countP_at [] h, if_neg (show ¬ leS k (xs.getD i []) = true by rw [show leS k (xs.getD i []) = false from hs]; simp)]; rfl
def sPlace33 : PSpec := ⟨[.d StrsT, .d .str], [⟨false, [.d (.int .i64)]⟩], fun _ => True, fun x => (((placeF x.1 x.2.1 : Nat), ()), ())⟩
def sPlace33R : PSpec := sPlace33
theorem fPlace33 : FnOk Try.prog 19 := ⟨_, Try.func19, by decide, rfl⟩
theorem pPlace33 : PSound Try.prog 19 sPlace33 := by
  refine psound (T := tab) (S := (spOf [])) (keep := k19) (by kernel_rfl) tabOk spNil (by kernel_rfl) Try.func19 (by kernel_rfl) (by decide) fun xs hg hp => ?_
  obtain ⟨xs, k, ⟨⟩⟩ := xs
  obtain ⟨⟨hl, -⟩, -⟩ := hg
  change List Str at xs
  change Str at k
  change xs.length ≤ _ at hl
  have hl := len63 hl
  clear hp
  show vfun tab _ k19 Try.f19 [.sl .str xs, .s k] [] _
  refine Ev.out ?_
  repeat' (first | ((with_reducible refine Ev.mk ?_); conv => whnf) | (with_reducible refine And.intro ?_ ?_) | (intro h))
  all_goals (try simp only [decide_eq_true_eq, decide_eq_false_iff_not, beq_iff_eq, bne_iff_ne, beq_eq_false_iff_ne, bne_eq_false_iff_eq, Int.toNat_natCast, ge_iff_le, gt_iff_lt, Bool.not_eq_true', Bool.not_eq_false', Int.not_lt, Int.not_le, ne_eq] at *)
  all_goals (try dsimp only [Ty.den, Ty.dflt, StrsT] at *)
  all_goals (try simp only [eq4, ne4, eq3, ne3, eq2, ne2, Prod.eta, List.length_cons, List.length_nil, List.length_append, Nat.zero_add] at *)
  all_goals (try simp (disch := omega) only [wrap64] at *)
  all_goals try first | exact leafDraw (by kernel_rfl) | exact Leaf.mk trivial | (refine Leaf.mk ?_; omega) | (refine Leaf.mk ?_; unfold maxLen; omega)
  refine LoopVC.on (fun i : Nat => [(5, .i .i64 (((xs.take i).countP (leS k) : Nat) : Int)), (10, .i .i64 i)]) (fun _ => []) (fun i => i ≤ xs.length) (fun i => xs.length - i) 0 rfl (by omega) ?_
  intro i hi
  have hc := countP_take_le (xs := xs) (i := i) (p := leS k)
  repeat' (first | ((with_reducible refine Ev.mk ?_); conv => whnf) | (with_reducible refine And.intro ?_ ?_) | (intro h))
  all_goals (try simp only [decide_eq_true_eq, decide_eq_false_iff_not, beq_iff_eq, bne_iff_ne, beq_eq_false_iff_ne, bne_eq_false_iff_eq, Int.toNat_natCast, ge_iff_le, gt_iff_lt, Bool.not_eq_true', Bool.not_eq_false', Int.not_lt, Int.not_le, ne_eq] at *)
  all_goals (try dsimp only [Ty.den, Ty.dflt, StrsT] at *)
  all_goals (try simp only [eq4, ne4, eq3, ne3, eq2, ne2, Prod.eta, List.length_cons, List.length_nil, List.length_append, Nat.zero_add] at *)
  all_goals (try simp (disch := omega) only [wrap64] at *)
  all_goals try first | exact leafDraw (by kernel_rfl) | exact Leaf.mk trivial | (refine Leaf.mk ?_; omega) | (refine Leaf.mk ?_; unfold maxLen; omega)
  all_goals first
    | (refine Leaf.mk ⟨i + 1, ?_, by omega, by omega⟩
       first
       | (rw [pl_in (by omega) ‹(_ || _) = true›]; rfl)
       | (rw [pl_out (by omega) ‹(_ || _) = false›]; rfl))
    | (refine Leaf.mk (ret1 (show _ = ((placeF xs k : Nat) : Int) from ?_))
       rw [placeF, take_all (by omega)])
theorem fPlace33R : FnOk Try.prog 20 := ⟨_, Try.func20, by decide, rfl⟩
theorem pPlace33R : PSound Try.prog 20 sPlace33R := by
  refine psound (T := tab) (S := (spOf [])) (keep := k20) (by kernel_rfl) tabOk spNil (by kernel_rfl) Try.func20 (by kernel_rfl) (by decide) fun xs hg hp => ?_
  obtain ⟨xs, k, ⟨⟩⟩ := xs
  obtain ⟨⟨hl, -⟩, -⟩ := hg
  change List Str at xs
  change Str at k
  change xs.length ≤ _ at hl
  have hl := len63 hl
  clear hp
  show vfun tab _ k20 Try.f20 [.sl .str xs, .s k] [] _
  refine Ev.out ?_
  repeat' (first | ((with_reducible refine Ev.mk ?_); conv => whnf) | (with_reducible refine And.intro ?_ ?_) | (intro h))
  all_goals (try simp only [decide_eq_true_eq, decide_eq_false_iff_not, beq_iff_eq, bne_iff_ne, beq_eq_false_iff_ne, bne_eq_false_iff_eq, Int.toNat_natCast, ge_iff_le, gt_iff_lt, Bool.not_eq_true', Bool.not_eq_false', Int.not_lt, Int.not_le, ne_eq] at *)
  all_goals (try dsimp only [Ty.den, Ty.dflt, StrsT] at *)
  all_goals (try simp only [eq4, ne4, eq3, ne3, eq2, ne2, Prod.eta, List.length_cons, List.length_nil, List.length_append, Nat.zero_add] at *)
  all_goals (try simp (disch := omega) only [wrap64] at *)
  all_goals try first | exact leafDraw (by kernel_rfl) | exact Leaf.mk trivial | (refine Leaf.mk ?_; omega) | (refine Leaf.mk ?_; unfold maxLen; omega)
  refine LoopVC.on (fun i : Nat => [(5, .i .i64 (((xs.take i).countP (leS k) : Nat) : Int)), (6, .i .i64 i)]) (fun _ => []) (fun i => i ≤ xs.length) (fun i => xs.length - i) 0 rfl (by omega) ?_
  intro i hi
  have hc := countP_take_le (xs := xs) (i := i) (p := leS k)
  repeat' (first | ((with_reducible refine Ev.mk ?_); conv => whnf) | (with_reducible refine And.intro ?_ ?_) | (intro h))
  all_goals (try simp only [decide_eq_true_eq, decide_eq_false_iff_not, beq_iff_eq, bne_iff_ne, beq_eq_false_iff_ne, bne_eq_false_iff_eq, Int.toNat_natCast, ge_iff_le, gt_iff_lt, Bool.not_eq_true', Bool.not_eq_false', Int.not_lt, Int.not_le, ne_eq] at *)
  all_goals (try dsimp only [Ty.den, Ty.dflt, StrsT] at *)
  all_goals (try simp only [eq4, ne4, eq3, ne3, eq2, ne2, Prod.eta, List.length_cons, List.length_nil, List.length_append, Nat.zero_add] at *)
  all_goals (try simp (disch := omega) only [wrap64] at *)
  all_goals try first | exact leafDraw (by kernel_rfl) | exact Leaf.mk trivial | (refine Leaf.mk ?_; omega) | (refine Leaf.mk ?_; unfold maxLen; omega)
  all_goals first
    | (refine Leaf.mk ⟨i + 1, ?_, by omega, by omega⟩
       first
       | (rw [pl_in (by omega) ‹(_ || _) = true›]; rfl)
       | (rw [pl_out (by omega) ‹(_ || _) = false›]; rfl))
    | (refine Leaf.mk (ret1 (show _ = ((placeF xs k : Nat) : Int) from ?_))
       rw [placeF, take_all (by omega)])
/-- The keys at so many parts' beginnings. -/
def pivN (s : List Str) (m : Nat) (k : Nat) : List Str := (List.range (k - 1)).map fun j => s.getD ((j + 1) * s.length / m) []
def mN (s : List Str) (n : Int) : Int := if ((s.length : Nat) : Int) < n then ((s.length : Nat) : Int) else n
def pivF (l : List Str) (n : Int) : List Str := pivN (sortF l) (mN (sortF l) n).toNat (mN (sortF l) n).toNat
theorem pivN_len (s : List Str) (m k : Nat) : (pivN s m k).length = k - 1 := by rw [pivN, List.length_map, List.length_range]
theorem pivN_at (s : List Str) (m : Nat) {k : Nat} (h : 1 ≤ k) : pivN s m (k + 1) = pivN s m k ++ [s.getD (k * s.length / m) []] := by
  obtain ⟨j, rfl⟩ : ∃ j, k = j + 1 := ⟨k - 1, by omega⟩
  rw [pivN, pivN, Nat.add_sub_cancel, List.range_succ, List.map_append]; simp
def sPivots : PSpec := ⟨[.d StrsT, .d (.int .i64)], [⟨false, [.d StrsT]⟩], fun x => List.length x.1 ≤ 100000, fun x => ((pivF x.1 x.2.1, ()), ())⟩
def sPivotsR : PSpec := sPivots
theorem fPivots : FnOk Try.prog 17 := ⟨_, Try.func17, by decide, rfl⟩
theorem pPivots : PSound Try.prog 17 sPivots := by
  refine psound (T := tab) (S := (spOf [(15, sSorted.spec (lsOf []))])) (keep := k17) (by kernel_rfl) tabOk (spCons (pOk pSorted fSorted (by decide) lsNil) spNil) (by kernel_rfl) Try.func17 (by kernel_rfl) (by decide) fun xs hg hp => ?_
  obtain ⟨l, n, ⟨⟩⟩ := xs
  change List Str at l
  change Int at n
  change l.length ≤ 100000 at hp
  clear hg
  show vfun tab _ k17 Try.f17 [.sl .str l, .i .i64 n] [] _
  refine Ev.out ?_
  repeat' (first | ((with_reducible refine Ev.mk ?_); conv => whnf) | (with_reducible refine And.intro ?_ ?_) | (intro h))
  · exact Leaf.mk hp
  generalize hs : (sSorted.fn (l, ())).1.1 = s at *
  change sortF l = s at hs
  change List Str at s
  all_goals (try simp only [decide_eq_true_eq, decide_eq_false_iff_not, beq_iff_eq, bne_iff_ne, beq_eq_false_iff_ne, bne_eq_false_iff_eq, Int.toNat_natCast, ge_iff_le, gt_iff_lt, Bool.not_eq_true', Bool.not_eq_false', Int.not_lt, Int.not_le, ne_eq] at *)
  all_goals (try dsimp only [Ty.den, Ty.dflt, StrsT] at *)
  all_goals (try simp only [eq4, ne4, eq3, ne3, eq2, ne2, Prod.eta, List.length_cons, List.length_nil, List.length_append, Nat.zero_add] at *)
  all_goals (try simp (disch := omega) only [wrap64] at *)
  all_goals try first | exact leafDraw (by kernel_rfl) | exact Leaf.mk trivial | (refine Leaf.mk ?_; omega) | (refine Leaf.mk ?_; unfold maxLen; omega)
  rw [show (if ((s.length : Nat) : Int) < n then ((s.length : Nat) : Int) else n) = mN s n from rfl]
  have hm : mN s n ≤ (s.length : Nat) := by unfold mN; split <;> omega
  have hsl := sortF_len l
  have hF : pivF l n = pivN (sortF l) (mN (sortF l) n).toNat (mN (sortF l) n).toNat := rfl
  rw [hs] at hsl hF
  clear hs
  generalize mN s n = M at *
  refine LoopVC.weak [(.slot 6, .nil 9 .str)] (fun j : Nat => [(7, .i .i64 j)]) (fun j => [(0, .arr 9 .str (pivN s M.toNat j))]) (fun j => 1 ≤ j ∧ ((j : Int) ≤ M ∨ j = 1)) (fun j => M.toNat - j) 1 (Ev.mk ?_)
  (conv => whnf)
  refine ⟨Leaf.mk rfl, Leaf.mk ?_, ?_⟩
  · exact ⟨by omega, .inr rfl⟩
  intro j ⟨hj1, hjm⟩
  have hpl := pivN_len s M.toNat j
  have hat := pivN_at s M.toNat hj1
  have hjl : (j : Int) < M → j * s.length ≤ 100000 * 100000 := fun h => Nat.mul_le_mul (by omega) (by omega)
  have hdl : (j : Int) < M → j * s.length / M.toNat < s.length := fun h => by
    refine Nat.div_lt_of_lt_mul ?_
    exact Nat.mul_lt_mul_of_pos_right (by omega) (by omega)
  repeat' (first | ((with_reducible refine Ev.mk ?_); conv => whnf) | (with_reducible refine And.intro ?_ ?_) | (intro h))
  all_goals (try simp only [decide_eq_true_eq, decide_eq_false_iff_not, beq_iff_eq, bne_iff_ne, beq_eq_false_iff_ne, bne_eq_false_iff_eq, Int.toNat_natCast, ge_iff_le, gt_iff_lt, Bool.not_eq_true', Bool.not_eq_false', Int.not_lt, Int.not_le, ne_eq] at *)
  all_goals (try dsimp only [Ty.den, Ty.dflt, StrsT] at *)
  all_goals (try simp only [eq4, ne4, eq3, ne3, eq2, ne2, Prod.eta, List.length_cons, List.length_nil, List.length_append, Nat.zero_add] at *)
  all_goals (try simp (disch := omega) only [wrap64] at *)
  all_goals try first | exact leafDraw (by kernel_rfl) | exact Leaf.mk trivial | (refine Leaf.mk ?_; omega) | (refine Leaf.mk ?_; unfold maxLen; omega)
  all_goals try rw [← Int.natCast_mul] at *
  all_goals try rw [wrap64 (n := ((j * s.length : Nat) : Int)) (by have := hjl (by omega); omega)] at *
  all_goals try rw [show (((j * s.length : Nat) : Int)).tdiv M = ((j * s.length / M.toNat : Nat) : Int) by
    obtain ⟨m, rfl⟩ := Int.eq_ofNat_of_zero_le (show 0 ≤ M by omega)
    rw [Int.toNat_natCast, Int.natCast_ediv, Int.tdiv_eq_ediv_of_nonneg (by omega)]] at *
  all_goals generalize hq : j * s.length / M.toNat = q at *
  all_goals have hw : (j : Int) < M → IntKind.i64.wrap (q : Int) = (q : Int) := fun h => wrap64 (by have := hdl h; omega)
  all_goals try rw [hw (by omega)] at *
  all_goals try rw [Int.toNat_natCast] at *
  all_goals first
    | (refine Leaf.mk ?_; omega)
    | (refine Leaf.mk ?_; unfold maxLen; omega)
    | (refine Leaf.mk ?_; have := hdl (by omega); omega)
    | (refine Leaf.mk ⟨j + 1, ?_, ⟨by omega, by omega⟩, by omega⟩
       rw [hat]; rfl)
    | (refine Leaf.mk (ret1 (show pivN s M.toNat j = pivF l n from ?_))
       rw [hF, pivN, pivN, show j - 1 = M.toNat - 1 by omega])
    | skip
  all_goals trace_state
  all_goals sorry
theorem fPivotsR : FnOk Try.prog 18 := ⟨_, Try.func18, by decide, rfl⟩
theorem pPivotsR : PSound Try.prog 18 sPivotsR := by
  refine psound (T := tab) (S := (spOf [(16, sSortedR.spec (lsOf []))])) (keep := k18) (by kernel_rfl) tabOk (spCons (pOk pSortedR fSortedR (by decide) lsNil) spNil) (by kernel_rfl) Try.func18 (by kernel_rfl) (by decide) fun xs hg hp => ?_
  obtain ⟨l, n, ⟨⟩⟩ := xs
  change List Str at l
  change Int at n
  change l.length ≤ 100000 at hp
  clear hg
  show vfun tab _ k18 Try.f18 [.sl .str l, .i .i64 n] [] _
  refine Ev.out ?_
  repeat' (first | ((with_reducible refine Ev.mk ?_); conv => whnf) | (with_reducible refine And.intro ?_ ?_) | (intro h))
  · exact Leaf.mk hp
  generalize hs : (sSortedR.fn (l, ())).1.1 = s at *
  change sortF l = s at hs
  change List Str at s
  all_goals (try simp only [decide_eq_true_eq, decide_eq_false_iff_not, beq_iff_eq, bne_iff_ne, beq_eq_false_iff_ne, bne_eq_false_iff_eq, Int.toNat_natCast, ge_iff_le, gt_iff_lt, Bool.not_eq_true', Bool.not_eq_false', Int.not_lt, Int.not_le, ne_eq] at *)
  all_goals (try dsimp only [Ty.den, Ty.dflt, StrsT] at *)
  all_goals (try simp only [eq4, ne4, eq3, ne3, eq2, ne2, Prod.eta, List.length_cons, List.length_nil, List.length_append, Nat.zero_add] at *)
  all_goals (try simp (disch := omega) only [wrap64] at *)
  all_goals try first | exact leafDraw (by kernel_rfl) | exact Leaf.mk trivial | (refine Leaf.mk ?_; omega) | (refine Leaf.mk ?_; unfold maxLen; omega)
  rw [show (if ((s.length : Nat) : Int) < n then ((s.length : Nat) : Int) else n) = mN s n from rfl]
  have hm : mN s n ≤ (s.length : Nat) := by unfold mN; split <;> omega
  have hsl := sortF_len l
  have hF : pivF l n = pivN (sortF l) (mN (sortF l) n).toNat (mN (sortF l) n).toNat := rfl
  rw [hs] at hsl hF
  clear hs
  generalize mN s n = M at *
  refine LoopVC.weak [(.slot 7, .nil 9 .str)] (fun j : Nat => [(8, .i .i64 j)]) (fun j => [(0, .arr 9 .str (pivN s M.toNat j))]) (fun j => 1 ≤ j ∧ ((j : Int) ≤ M ∨ j = 1)) (fun j => M.toNat - j) 1 (Ev.mk ?_)
  (conv => whnf)
  refine ⟨Leaf.mk rfl, Leaf.mk ?_, ?_⟩
  · exact ⟨by omega, .inr rfl⟩
  intro j ⟨hj1, hjm⟩
  have hpl := pivN_len s M.toNat j
  have hat := pivN_at s M.toNat hj1
  have hjl : (j : Int) < M → j * s.length ≤ 100000 * 100000 := fun h => Nat.mul_le_mul (by omega) (by omega)
  have hdl : (j : Int) < M → j * s.length / M.toNat < s.length := fun h => by
    refine Nat.div_lt_of_lt_mul ?_
    exact Nat.mul_lt_mul_of_pos_right (by omega) (by omega)
  repeat' (first | ((with_reducible refine Ev.mk ?_); conv => whnf) | (with_reducible refine And.intro ?_ ?_) | (intro h))
  all_goals (try simp only [decide_eq_true_eq, decide_eq_false_iff_not, beq_iff_eq, bne_iff_ne, beq_eq_false_iff_ne, bne_eq_false_iff_eq, Int.toNat_natCast, ge_iff_le, gt_iff_lt, Bool.not_eq_true', Bool.not_eq_false', Int.not_lt, Int.not_le, ne_eq] at *)
  all_goals (try dsimp only [Ty.den, Ty.dflt, StrsT] at *)
  all_goals (try simp only [eq4, ne4, eq3, ne3, eq2, ne2, Prod.eta, List.length_cons, List.length_nil, List.length_append, Nat.zero_add] at *)
  all_goals (try simp (disch := omega) only [wrap64] at *)
  all_goals try first | exact leafDraw (by kernel_rfl) | exact Leaf.mk trivial | (refine Leaf.mk ?_; omega) | (refine Leaf.mk ?_; unfold maxLen; omega)
  all_goals try rw [← Int.natCast_mul] at *
  all_goals try rw [wrap64 (n := ((j * s.length : Nat) : Int)) (by have := hjl (by omega); omega)] at *
  all_goals try rw [show (((j * s.length : Nat) : Int)).tdiv M = ((j * s.length / M.toNat : Nat) : Int) by
    obtain ⟨m, rfl⟩ := Int.eq_ofNat_of_zero_le (show 0 ≤ M by omega)
    rw [Int.toNat_natCast, Int.natCast_ediv, Int.tdiv_eq_ediv_of_nonneg (by omega)]] at *
  all_goals generalize hq : j * s.length / M.toNat = q at *
  all_goals have hw : (j : Int) < M → IntKind.i64.wrap (q : Int) = (q : Int) := fun h => wrap64 (by have := hdl h; omega)
  all_goals try rw [hw (by omega)] at *
  all_goals try rw [Int.toNat_natCast] at *
  all_goals first
    | (refine Leaf.mk ?_; omega)
    | (refine Leaf.mk ?_; unfold maxLen; omega)
    | (refine Leaf.mk ?_; have := hdl (by omega); omega)
    | (refine Leaf.mk ⟨j + 1, ?_, ⟨by omega, by omega⟩, by omega⟩
       rw [hat]; rfl)
    | (refine Leaf.mk (ret1 (show pivN s M.toNat j = pivF l n from ?_))
       rw [hF, pivN, pivN, show j - 1 = M.toNat - 1 by omega])
    | skip
  all_goals trace_state
  all_goals sorry
end Go.Proofs.Ytcgfolhnoggjfaa
