import Derived.Test.YtlfehkoklgmjjaaD1



set_option linter.unusedVariables false
set_option linter.unusedSimpArgs false
namespace Go.Proofs.Ytlfehkoklgmjjaa
open Go.Eng
def isK (k x : List UInt8) : Bool := decide (k = x)
def sIndexS : PSpec := ⟨[.d TxT, .d .str], [⟨false, [.d (.int .i64)]⟩], fun _ => True, fun x => ((idxF (isK x.2.1) x.1 0, ()), ())⟩
theorem fIndexS : FnOk Try.prog 139 := ⟨_, Try.func139, by decide, rfl⟩
theorem pIndexS : PSound Try.prog 139 sIndexS := by
  refine psound (T := tab) (S := (spOf [])) (keep := k139) (by kernel_rfl) tabOk spNil (by kernel_rfl) Try.func139 (by kernel_rfl) (by decide) fun xs hg hp => ?_
  obtain ⟨xs, k, ⟨⟩⟩ := xs
  obtain ⟨⟨hl, -⟩, -⟩ := hg
  change List (List UInt8) at xs
  change xs.length ≤ _ at hl
  have hl := len63 hl
  clear hp
  change List UInt8 at k
  show vfun tab _ k139 Try.f139 [.sl .str xs, .s k] [] _
  refine Ev.out ?_
  repeat' (first | ((with_reducible refine Ev.mk ?_); conv => whnf) | (with_reducible refine And.intro ?_ ?_) | (intro h))
  refine LoopVC.on (fun i : Nat => [(8, .i .i64 i)]) (fun _ => []) (fun i => i ≤ xs.length ∧ idxF (isK k) xs 0 = idxF (isK k) (xs.drop i) i) (fun i => xs.length - i) 0 rfl ⟨by omega, by simp⟩ ?_
  intro i ⟨hi, he⟩
  repeat' (first | ((with_reducible refine Ev.mk ?_); conv => whnf) | (with_reducible refine And.intro ?_ ?_) | (intro h))
  all_goals (try simp only [decide_eq_true_eq, decide_eq_false_iff_not, beq_iff_eq, bne_iff_ne, beq_eq_false_iff_ne, bne_eq_false_iff_eq, Int.toNat_natCast, ge_iff_le, gt_iff_lt, Bool.not_eq_true', Bool.not_eq_false', Int.not_lt, Int.not_le, ne_eq] at *)
  all_goals (try dsimp only [Ty.den, Ty.dflt, TxT] at *)
  all_goals (try simp only [eq4, ne4, eq3, ne3, eq2, ne2, Prod.eta, List.length_cons, List.length_nil, List.length_append, Nat.zero_add] at *)
  all_goals (try simp (disch := omega) only [wrap64] at *)
  all_goals try first | exact leafDraw (by kernel_rfl) | exact Leaf.mk trivial | (refine Leaf.mk ?_; omega) | (refine Leaf.mk ?_; unfold maxLen; omega)
  all_goals first
    | (rw [drop_end (by omega)] at he; exact Leaf.mk (ret1 he.symm))
    | (rw [drop_at [] (by omega), idxF, if_pos (show isK k _ = true from decide_eq_true h)] at he; exact Leaf.mk (ret1 he.symm))
    | (rw [drop_at [] (by omega), idxF, if_neg (by rw [isK, decide_eq_true_iff]; assumption)] at he; exact Leaf.mk ⟨i + 1, rfl, ⟨by omega, he⟩, by omega⟩)
theorem any_isK (xs : Tx) (k : List UInt8) : xs.any (isK k) = has xs k := by
  rw [has, Bool.eq_iff_iff, List.any_eq_true, decide_eq_true_iff]
  exact ⟨fun ⟨x, h1, h2⟩ => (of_decide_eq_true h2) ▸ h1, fun h => ⟨k, h, decide_eq_true rfl⟩⟩
def sContainsS : PSpec := sHas
theorem fContainsS : FnOk Try.prog 82 := ⟨_, Try.func82, by decide, rfl⟩
theorem pContainsS : PSound Try.prog 82 sContainsS := by
  refine psound (T := tab) (S := (spOf [(139, sIndexS.spec (lsOf []))])) (keep := k82) (by kernel_rfl) tabOk (spCons (pOk pIndexS fIndexS (by decide) lsNil) spNil) (by kernel_rfl) Try.func82 (by kernel_rfl) (by decide) fun xs hg hp => ?_
  obtain ⟨xs, k, ⟨⟩⟩ := xs
  show vfun tab _ k82 Try.f82 [.sl .str xs, .s k] [] _
  refine Ev.out ?_
  repeat' (first | ((with_reducible refine Ev.mk ?_); conv => whnf) | (with_reducible refine And.intro ?_ ?_) | (intro h))
  · exact Leaf.mk trivial
  · exact Leaf.mk (ret1 ((idxF_any xs 0).trans (any_isK xs k)))
def sCloneE : PSpec := ⟨[.d (.slice EntT)], [⟨false, [.o 47 EntT]⟩], fun x => x.1.length ≤ 1000000, fun x => ((x.1, ()), ())⟩
theorem fCloneE : FnOk Try.prog 75 := ⟨_, Try.func75, by decide, rfl⟩
theorem pCloneE : PSound Try.prog 75 sCloneE := by
  refine psound (T := tab) (S := (spOf [])) (keep := k75) (by kernel_rfl) tabOk spNil (by kernel_rfl) Try.func75 (by kernel_rfl) (by decide) fun xs hg hp => ?_
  obtain ⟨xs, ⟨⟩⟩ := xs
  obtain ⟨⟨hl, -⟩, -⟩ := hg
  change List Ent at xs
  clear hl
  change xs.length ≤ 1000000 at hp
  show vfun tab _ k75 Try.f75 [.sl EntT xs] [] _
  refine Ev.out ?_
  repeat' (first | ((with_reducible refine Ev.mk ?_); conv => whnf) | (with_reducible refine And.intro ?_ ?_) | (intro h))
  all_goals (try simp only [decide_eq_true_eq, decide_eq_false_iff_not, beq_iff_eq, bne_iff_ne, beq_eq_false_iff_ne, bne_eq_false_iff_eq, Int.toNat_natCast, ge_iff_le, gt_iff_lt, Bool.not_eq_true', Bool.not_eq_false', Int.not_lt, Int.not_le, ne_eq] at *)
  all_goals (try dsimp only [Ty.den, Ty.dflt, EntT] at *)
  all_goals (try simp only [eq4, ne4, eq3, ne3, eq2, ne2, Prod.eta, List.length_cons, List.length_nil, List.length_append, Nat.zero_add] at *)
  all_goals (try simp (disch := omega) only [wrap64] at *)
  all_goals try first | exact leafDraw (by kernel_rfl) | exact Leaf.mk trivial | (refine Leaf.mk ?_; omega) | (refine Leaf.mk ?_; unfold maxLen; omega)
  all_goals first
    | (refine Leaf.mk (ret1 (show ([] : List Ent) = xs from ?_)); exact (List.eq_nil_of_length_eq_zero (by omega)).symm)
    | exact Leaf.mk (ret1 rfl)
    | skip
def sCloneS : PSpec := ⟨[.d (.slice .str)], [⟨false, [.o 9 .str]⟩], fun x => x.1.length ≤ 1000000, fun x => ((x.1, ()), ())⟩
theorem fCloneS : FnOk Try.prog 76 := ⟨_, Try.func76, by decide, rfl⟩
theorem pCloneS : PSound Try.prog 76 sCloneS := by
  refine psound (T := tab) (S := (spOf [])) (keep := k76) (by kernel_rfl) tabOk spNil (by kernel_rfl) Try.func76 (by kernel_rfl) (by decide) fun xs hg hp => ?_
  obtain ⟨xs, ⟨⟩⟩ := xs
  obtain ⟨⟨hl, -⟩, -⟩ := hg
  change List (List UInt8) at xs
  clear hl
  change xs.length ≤ 1000000 at hp
  show vfun tab _ k76 Try.f76 [.sl .str xs] [] _
  refine Ev.out ?_
  repeat' (first | ((with_reducible refine Ev.mk ?_); conv => whnf) | (with_reducible refine And.intro ?_ ?_) | (intro h))
  all_goals (try simp only [decide_eq_true_eq, decide_eq_false_iff_not, beq_iff_eq, bne_iff_ne, beq_eq_false_iff_ne, bne_eq_false_iff_eq, Int.toNat_natCast, ge_iff_le, gt_iff_lt, Bool.not_eq_true', Bool.not_eq_false', Int.not_lt, Int.not_le, ne_eq] at *)
  all_goals (try dsimp only [Ty.den, Ty.dflt, .str] at *)
  all_goals (try simp only [eq4, ne4, eq3, ne3, eq2, ne2, Prod.eta, List.length_cons, List.length_nil, List.length_append, Nat.zero_add] at *)
  all_goals (try simp (disch := omega) only [wrap64] at *)
  all_goals try first | exact leafDraw (by kernel_rfl) | exact Leaf.mk trivial | (refine Leaf.mk ?_; omega) | (refine Leaf.mk ?_; unfold maxLen; omega)
  all_goals first
    | (refine Leaf.mk (ret1 (show ([] : List (List UInt8)) = xs from ?_)); exact (List.eq_nil_of_length_eq_zero (by omega)).symm)
    | exact Leaf.mk (ret1 rfl)
    | skip
def sameTx (a b : Tx) : Bool := decide (a = b)
def sSameTexts : PSpec := ⟨[.d TxT, .d TxT], [⟨false, [.d .bool]⟩], fun _ => True, fun x => ((sameTx x.1 x.2.1, ()), ())⟩
theorem fSameTexts : FnOk Try.prog 29 := ⟨_, Try.func29, by decide, rfl⟩
theorem pSameTexts : PSound Try.prog 29 sSameTexts := by
  refine psound (T := tab) (S := (spOf [])) (keep := k29) (by kernel_rfl) tabOk spNil (by kernel_rfl) Try.func29 (by kernel_rfl) (by decide) fun xs hg hp => ?_
  obtain ⟨xs, ys, ⟨⟩⟩ := xs
  obtain ⟨⟨hl, -⟩, ⟨hl2, -⟩, -⟩ := hg
  have hl := len63 hl
  have hl2 := len63 hl2
  change List (List UInt8) at xs ys
  change xs.length ≤ _ at hl
  change ys.length ≤ _ at hl2
  clear hp
  show vfun tab _ k29 Try.f29 [.sl .str xs, .sl .str ys] [] _
  refine Ev.out ?_
  repeat' (first | ((with_reducible refine Ev.mk ?_); conv => whnf) | (with_reducible refine And.intro ?_ ?_) | (intro h))
  all_goals (try simp only [decide_eq_true_eq, decide_eq_false_iff_not, beq_iff_eq, bne_iff_ne, beq_eq_false_iff_ne, bne_eq_false_iff_eq, Int.toNat_natCast, ge_iff_le, gt_iff_lt, Bool.not_eq_true', Bool.not_eq_false', Int.not_lt, Int.not_le, ne_eq] at *)
  all_goals (try dsimp only [Ty.den, Ty.dflt, TxT] at *)
  all_goals (try simp only [eq4, ne4, eq3, ne3, eq2, ne2, Prod.eta, List.length_cons, List.length_nil, List.length_append, Nat.zero_add] at *)
  all_goals (try simp (disch := omega) only [wrap64] at *)
  · refine Leaf.mk (ret1 (show false = decide (xs = ys) from ?_))
    rw [eq_comm, decide_eq_false_iff_not]; intro hc; subst hc; omega
  refine LoopVC.on (fun i : Nat => [(5, .i .i64 i)]) (fun _ => []) (fun i => i ≤ xs.length ∧ xs.take i = ys.take i) (fun i => xs.length - i) 0 rfl ⟨by omega, by simp⟩ ?_
  intro i ⟨hi, he⟩
  repeat' (first | ((with_reducible refine Ev.mk ?_); conv => whnf) | (with_reducible refine And.intro ?_ ?_) | (intro h))
  all_goals (try simp only [decide_eq_true_eq, decide_eq_false_iff_not, beq_iff_eq, bne_iff_ne, beq_eq_false_iff_ne, bne_eq_false_iff_eq, Int.toNat_natCast, ge_iff_le, gt_iff_lt, Bool.not_eq_true', Bool.not_eq_false', Int.not_lt, Int.not_le, ne_eq] at *)
  all_goals (try dsimp only [Ty.den, Ty.dflt, TxT] at *)
  all_goals (try simp only [eq4, ne4, eq3, ne3, eq2, ne2, Prod.eta, List.length_cons, List.length_nil, List.length_append, Nat.zero_add] at *)
  all_goals (try simp (disch := omega) only [wrap64] at *)
  all_goals try first | exact leafDraw (by kernel_rfl) | exact Leaf.mk trivial | (refine Leaf.mk ?_; omega) | (refine Leaf.mk ?_; unfold maxLen; omega)
  all_goals first
    | exact Leaf.mk (ret1 (show false = decide (xs = ys) by rw [eq_comm, decide_eq_false_iff_not]; exact same_not [] h))
    | exact Leaf.mk ⟨i + 1, rfl, ⟨by omega, same_step [] (by omega) he (by omega) h⟩, by omega⟩
    | exact Leaf.mk (ret1 (show true = decide (xs = ys) by rw [eq_comm, decide_eq_true_eq]; exact same_end (by omega) he (by omega)))
def sSame22 : PSpec := ⟨[.d (.slice EntT), .d (.slice EntT)], [⟨false, [.d .bool]⟩], fun _ => True, fun x => ((decide ((x.1 : List Ent) = x.2.1), ()), ())⟩
theorem fSame22 : FnOk Try.prog 19 := ⟨_, Try.func19, by decide, rfl⟩
theorem pSame22 : PSound Try.prog 19 sSame22 := by
  refine psound (T := tab) (S := (spOf [(29, sSameTexts.spec (lsOf []))])) (keep := k19) (by kernel_rfl) tabOk (spCons (pOk pSameTexts fSameTexts (by decide) lsNil) spNil) (by kernel_rfl) Try.func19 (by kernel_rfl) (by decide) fun xs hg hp => ?_
  obtain ⟨xs, ys, ⟨⟩⟩ := xs
  obtain ⟨⟨hl, -⟩, ⟨hl2, -⟩, -⟩ := hg
  have hl := len63 hl
  have hl2 := len63 hl2
  change List Ent at xs ys
  change xs.length ≤ _ at hl
  change ys.length ≤ _ at hl2
  clear hp
  show vfun tab _ k19 Try.f19 [.sl EntT xs, .sl EntT ys] [] _
  refine Ev.out ?_
  repeat' (first | ((with_reducible refine Ev.mk ?_); conv => whnf) | (with_reducible refine And.intro ?_ ?_) | (intro h))
  all_goals (try simp only [decide_eq_true_eq, decide_eq_false_iff_not, beq_iff_eq, bne_iff_ne, beq_eq_false_iff_ne, bne_eq_false_iff_eq, Int.toNat_natCast, ge_iff_le, gt_iff_lt, Bool.not_eq_true', Bool.not_eq_false', Int.not_lt, Int.not_le, ne_eq] at *)
  all_goals (try dsimp only [Ty.den, Ty.dflt, EntT] at *)
  all_goals (try simp only [eq4, ne4, eq3, ne3, eq2, ne2, Prod.eta, List.length_cons, List.length_nil, List.length_append, Nat.zero_add] at *)
  all_goals (try simp (disch := omega) only [wrap64] at *)
  · refine Leaf.mk (ret1 (show false = decide (xs = ys) from ?_))
    rw [eq_comm, decide_eq_false_iff_not]; intro hc; subst hc; omega
  refine LoopVC.on (fun i : Nat => [(5, .i .i64 i)]) (fun _ => []) (fun i => i ≤ xs.length ∧ xs.take i = ys.take i) (fun i => xs.length - i) 0 rfl ⟨by omega, by simp⟩ ?_
  intro i ⟨hi, he⟩
  repeat' (first | ((with_reducible refine Ev.mk ?_); conv => whnf) | (with_reducible refine And.intro ?_ ?_) | (intro h))
  all_goals (try simp only [decide_eq_true_eq, decide_eq_false_iff_not, beq_iff_eq, bne_iff_ne, beq_eq_false_iff_ne, bne_eq_false_iff_eq, Int.toNat_natCast, ge_iff_le, gt_iff_lt, Bool.not_eq_true', Bool.not_eq_false', Int.not_lt, Int.not_le, ne_eq] at *)
  all_goals (try dsimp only [Ty.den, Ty.dflt, EntT, sSameTexts] at *)
  all_goals (try simp only [eq4, ne4, eq3, ne3, eq2, ne2, Prod.eta, List.length_cons, List.length_nil, List.length_append, Nat.zero_add] at *)
  all_goals (try simp (disch := omega) only [wrap64] at *)
  all_goals try first | exact leafDraw (by kernel_rfl) | exact Leaf.mk trivial | (refine Leaf.mk ?_; omega) | (refine Leaf.mk ?_; unfold maxLen; omega)
  all_goals first
    | (refine Leaf.mk (ret1 (show false = decide (xs = ys) from ?_))
       rw [eq_comm, decide_eq_false_iff_not]; intro hc; subst hc
       first | exact h rfl | exact absurd h (by simp [sameTx]))
    | exact Leaf.mk ⟨i + 1, rfl, ⟨by omega, same_step ((0, []) : Ent) (by omega) he (by omega) (Prod.ext ‹_› (of_decide_eq_true h))⟩, by omega⟩
    | exact Leaf.mk (ret1 (show true = decide (xs = ys) by rw [eq_comm, decide_eq_true_eq]; exact same_end (by omega) he (by omega)))
/-! ## Logs -/
def light22 (l : List Ent) : Bool := decide (l.length ≤ 30) && l.all (fun e => decide (e.2.length ≤ 20))
def sLight22 : PSpec := ⟨[.d (.slice EntT)], [⟨false, [.d .bool]⟩], fun _ => True, fun x => ((light22 x.1, ()), ())⟩
theorem fLight22 : FnOk Try.prog 15 := ⟨_, Try.func15, by decide, rfl⟩
theorem pLight22 : PSound Try.prog 15 sLight22 := by
  refine psound (T := tab) (S := (spOf [])) (keep := k15) (by kernel_rfl) tabOk spNil (by kernel_rfl) Try.func15 (by kernel_rfl) (by decide) fun xs hg hp => ?_
  obtain ⟨xs, ⟨⟩⟩ := xs
  obtain ⟨⟨hl, -⟩, -⟩ := hg
  change List Ent at xs
  change xs.length ≤ _ at hl
  have hl := len63 hl
  clear hp
  show vfun tab _ k15 Try.f15 [.sl EntT xs] [] _
  refine Ev.out ?_
  repeat' (first | ((with_reducible refine Ev.mk ?_); conv => whnf) | (with_reducible refine And.intro ?_ ?_) | (intro h))
  all_goals (try simp only [decide_eq_true_eq, decide_eq_false_iff_not, beq_iff_eq, bne_iff_ne, beq_eq_false_iff_ne, bne_eq_false_iff_eq, Int.toNat_natCast, ge_iff_le, gt_iff_lt, Bool.not_eq_true', Bool.not_eq_false', Int.not_lt, Int.not_le, ne_eq] at *)
  all_goals (try dsimp only [Ty.den, Ty.dflt, EntT] at *)
  all_goals (try simp only [eq4, ne4, eq3, ne3, eq2, ne2, Prod.eta, List.length_cons, List.length_nil, List.length_append, Nat.zero_add] at *)
  all_goals (try simp (disch := omega) only [wrap64] at *)
  · refine Leaf.mk (ret1 (show false = light22 xs from ?_))
    rw [light22, show decide (xs.length ≤ 30) = false by simp; omega]; rfl
  have h0 : light22 xs = xs.all (fun e => decide (e.2.length ≤ 20)) := by
    rw [light22, show decide (xs.length ≤ 30) = true by simp; omega]; rfl
  refine LoopVC.on (fun i : Nat => [(3, .i .i64 i)]) (fun _ => []) (fun i => i ≤ xs.length ∧ light22 xs = (xs.drop i).all (fun e => decide (e.2.length ≤ 20))) (fun i => xs.length - i) 0 rfl ⟨by omega, by simp [h0]⟩ ?_
  intro i ⟨hi, he⟩
  repeat' (first | ((with_reducible refine Ev.mk ?_); conv => whnf) | (with_reducible refine And.intro ?_ ?_) | (intro h))
  all_goals (try simp only [decide_eq_true_eq, decide_eq_false_iff_not, beq_iff_eq, bne_iff_ne, beq_eq_false_iff_ne, bne_eq_false_iff_eq, Int.toNat_natCast, ge_iff_le, gt_iff_lt, Bool.not_eq_true', Bool.not_eq_false', Int.not_lt, Int.not_le, ne_eq] at *)
  all_goals (try dsimp only [Ty.den, Ty.dflt, EntT] at *)
  all_goals (try simp only [eq4, ne4, eq3, ne3, eq2, ne2, Prod.eta, List.length_cons, List.length_nil, List.length_append, Nat.zero_add] at *)
  all_goals (try simp (disch := omega) only [wrap64] at *)
  all_goals try first | exact leafDraw (by kernel_rfl) | exact Leaf.mk trivial | (refine Leaf.mk ?_; omega) | (refine Leaf.mk ?_; unfold maxLen; omega)
  all_goals first
    | (rw [all_end (by omega)] at he; exact Leaf.mk (ret1 he.symm))
    | (rw [all_hit (0, []) (by omega) (by simp only [decide_eq_false_iff_not]; omega)] at he; exact Leaf.mk (ret1 he.symm))
    | (rw [all_skip (0, []) (by omega) (by simp only [decide_eq_true_eq]; omega)] at he; exact Leaf.mk ⟨i + 1, rfl, ⟨by omega, he⟩, by omega⟩)
def note (l : List Ent) (at' : Int) (k : Tx) : List Ent := if k = [] then l else l ++ [(at', k)]
def sNote : PSpec := ⟨[.d (.slice EntT), .d (.int .i64), .d TxT], [⟨false, [.d (.slice EntT)]⟩], fun x => List.length x.1 ≤ 1000 ∧ List.length x.2.2.1 ≤ 1000, fun x => ((note x.1 x.2.1 x.2.2.1, ()), ())⟩
def sNoteR : PSpec := sNote
theorem fNote : FnOk Try.prog 18 := ⟨_, Try.func18, by decide, rfl⟩
theorem pNote : PSound Try.prog 18 sNote := by
  refine psound (T := tab) (S := (spOf [(75, sCloneE.spec (lsOf [])), (76, sCloneS.spec (lsOf []))])) (keep := k18) (by kernel_rfl) tabOk (spCons (pOk pCloneE fCloneE (by decide) lsNil) (spCons (pOk pCloneS fCloneS (by decide) lsNil) spNil)) (by kernel_rfl) Try.func18 (by kernel_rfl) (by decide) fun xs hg hp => ?_
  obtain ⟨xs, at', ks, ⟨⟩⟩ := xs
  change List Ent at xs
  change Int at at'
  change List (List UInt8) at ks
  change xs.length ≤ 1000 ∧ ks.length ≤ 1000 at hp
  show vfun tab _ k18 Try.f18 [.sl EntT xs, .i .i64 at', .sl .str ks] [] _
  refine Ev.out ?_
  repeat' (first | ((with_reducible refine Ev.mk ?_); conv => whnf) | (with_reducible refine And.intro ?_ ?_) | (intro h))
  all_goals (try simp only [decide_eq_true_eq, decide_eq_false_iff_not, beq_iff_eq, bne_iff_ne, beq_eq_false_iff_ne, bne_eq_false_iff_eq, Int.toNat_natCast, ge_iff_le, gt_iff_lt, Bool.not_eq_true', Bool.not_eq_false', Int.not_lt, Int.not_le, ne_eq] at *)
  all_goals (try dsimp only [Ty.den, Ty.dflt, EntT, sCloneE, sCloneS] at *)
  all_goals (try simp only [eq4, ne4, eq3, ne3, eq2, ne2, Prod.eta, List.length_cons, List.length_nil, List.length_append, Nat.zero_add] at *)
  all_goals (try simp (disch := omega) only [wrap64] at *)
  all_goals try first | exact leafDraw (by kernel_rfl) | exact Leaf.mk trivial | (refine Leaf.mk ?_; omega) | (refine Leaf.mk ?_; unfold maxLen; omega)
  · have hk : ks = [] := List.eq_nil_of_length_eq_zero (by omega)
    exact Leaf.mk (ret1 (show xs = note xs at' ks by rw [note, if_pos hk]))
  · have hk : ¬ ks = [] := fun hc => h (by rw [hc]; rfl)
    exact Leaf.mk (ret1 (show xs ++ [(at', ks)] = note xs at' ks by rw [note, if_neg hk]))
theorem fNoteR : FnOk Try.prog 21 := ⟨_, Try.func21, by decide, rfl⟩
theorem pNoteR : PSound Try.prog 21 sNoteR := by
  refine psound (T := tab) (S := (spOf [])) (keep := k21) (by kernel_rfl) tabOk spNil (by kernel_rfl) Try.func21 (by kernel_rfl) (by decide) fun xs hg hp => ?_
  obtain ⟨xs, at', ks, ⟨⟩⟩ := xs
  change List Ent at xs
  change Int at at'
  change List (List UInt8) at ks
  change xs.length ≤ 1000 ∧ ks.length ≤ 1000 at hp
  show vfun tab _ k21 Try.f21 [.sl EntT xs, .i .i64 at', .sl .str ks] [] _
  refine Ev.out ?_
  repeat' (first | ((with_reducible refine Ev.mk ?_); conv => whnf) | (with_reducible refine And.intro ?_ ?_) | (intro h))
  all_goals (try simp only [decide_eq_true_eq, decide_eq_false_iff_not, beq_iff_eq, bne_iff_ne, beq_eq_false_iff_ne, bne_eq_false_iff_eq, Int.toNat_natCast, ge_iff_le, gt_iff_lt, Bool.not_eq_true', Bool.not_eq_false', Int.not_lt, Int.not_le, ne_eq] at *)
  all_goals (try dsimp only [Ty.den, Ty.dflt, EntT] at *)
  all_goals (try simp only [eq4, ne4, eq3, ne3, eq2, ne2, Prod.eta, List.length_cons, List.length_nil, List.length_append, Nat.zero_add] at *)
  all_goals (try simp (disch := omega) only [wrap64] at *)
  all_goals try first | exact leafDraw (by kernel_rfl) | exact Leaf.mk trivial | (refine Leaf.mk ?_; omega) | (refine Leaf.mk ?_; unfold maxLen; omega)
  · have hk : ks = [] := List.eq_nil_of_length_eq_zero (by omega)
    exact Leaf.mk (ret1 (show xs = note xs at' ks by rw [note, if_pos hk]))
  · have hk : ¬ ks = [] := fun hc => h (by rw [hc]; rfl)
    exact Leaf.mk (ret1 (show xs ++ [(at', ks)] = note xs at' ks by rw [note, if_neg hk]))
def trim (l : List Ent) (at' : Int) : List Ent := l.filter (fun e => decide (at' < e.1))
def sTrim : PSpec := ⟨[.d (.slice EntT), .d (.int .i64)], [⟨false, [.d (.slice EntT)]⟩], fun x => List.length x.1 ≤ 1000, fun x => ((trim x.1 x.2.1, ()), ())⟩
def sTrimR : PSpec := sTrim
theorem fTrimR : FnOk Try.prog 23 := ⟨_, Try.func23, by decide, rfl⟩
theorem pTrimR : PSound Try.prog 23 sTrimR := by
  refine psound (T := tab) (S := (spOf [])) (keep := k23) (by kernel_rfl) tabOk spNil (by kernel_rfl) Try.func23 (by kernel_rfl) (by decide) fun xs hg hp => ?_
  obtain ⟨xs, at', ⟨⟩⟩ := xs
  change List Ent at xs
  change Int at at'
  change xs.length ≤ 1000 at hp
  show vfun tab _ k23 Try.f23 [.sl EntT xs, .i .i64 at'] [] _
  refine Ev.out ?_
  repeat' (first | ((with_reducible refine Ev.mk ?_); conv => whnf) | (with_reducible refine And.intro ?_ ?_) | (intro h))
  refine LoopVC.weak [(.slot 5, .nil 126 EntT)] (fun i : Nat => [(6, .i .i64 i)]) (fun i => [(0, .arr 126 EntT (trim (xs.take i) at'))]) (fun i => i ≤ xs.length) (fun i => xs.length - i) 0 (Ev.mk ?_)
  (conv => whnf)
  refine ⟨Leaf.mk rfl, Leaf.mk ?_, ?_⟩
  · omega
  intro i hi
  have hf : (trim (xs.take i) at').length ≤ 1000 := Nat.le_trans (List.length_filter_le _ _) (by rw [List.length_take]; omega)
  repeat' (first | ((with_reducible refine Ev.mk ?_); conv => whnf) | (with_reducible refine And.intro ?_ ?_) | (intro h))
  all_goals (try simp only [decide_eq_true_eq, decide_eq_false_iff_not, beq_iff_eq, bne_iff_ne, beq_eq_false_iff_ne, bne_eq_false_iff_eq, Int.toNat_natCast, ge_iff_le, gt_iff_lt, Bool.not_eq_true', Bool.not_eq_false', Int.not_lt, Int.not_le, ne_eq] at *)
  all_goals (try dsimp only [Ty.den, Ty.dflt, EntT] at *)
  all_goals (try simp only [eq4, ne4, eq3, ne3, eq2, ne2, Prod.eta, List.length_cons, List.length_nil, List.length_append, Nat.zero_add] at *)
  all_goals (try simp (disch := omega) only [wrap64] at *)
  all_goals try first | exact leafDraw (by kernel_rfl) | exact Leaf.mk trivial | (refine Leaf.mk ?_; omega) | (refine Leaf.mk ?_; unfold maxLen; omega)
  all_goals first
    | (rw [List.take_of_length_le (by omega)]; exact Leaf.mk (ret1 rfl))
    | (refine Leaf.mk ⟨i + 1, ?_, by omega, by omega⟩
       unfold trim
       rw [filter_at (0, []) (by omega)]
       first
       | (rw [if_pos (decide_eq_true h)]; rfl)
       | (rw [if_neg (by rw [decide_eq_true_iff]; omega), List.append_nil]; rfl))
def firstP (at' : Int) (k : Tx) (e : Ent) : Bool := decide (at' < e.1) && meet e.2 k
def firstL (l : List Ent) (at' : Int) (k : Tx) : Option Ent := l.find? (firstP at' k)
def sFirst : PSpec := ⟨[.d (.slice EntT), .d (.int .i64), .d TxT], [⟨false, [.d (.int .i64)]⟩, ⟨false, [.d .bool]⟩], fun _ => True, fun x => ((((firstL x.1 x.2.1 x.2.2.1).getD (0, [])).1, ()), ((firstL x.1 x.2.1 x.2.2.1).isSome, ()), ())⟩
def sFirstR : PSpec := sFirst
def lFirst1 : LSpec := ⟨EntT, .bool, [.bx (.int .i64), .bx TxT], fun e c => firstP c.1 c.2.1 e⟩
theorem fFirst1 : FnOk Try.prog 81 := ⟨_, Try.func81, by decide, rfl⟩
theorem pFirst1 : PSound Try.prog 81 lFirst1.p := by
  refine psound (T := tab) (S := (spOf [(31, sMeet.spec (lsOf []))])) (keep := k81) (by kernel_rfl) tabOk (spCons (pOk pMeet fMeet (by decide) lsNil) spNil) (by kernel_rfl) Try.func81 (by kernel_rfl) (by decide) fun xs hg hp => ?_
  obtain ⟨⟨ts, ks⟩, at', ys, ⟨⟩⟩ := xs
  show vfun tab _ k81 Try.f81 [.agg [.i .i64 ts, .sl .str ks], .rp [.i .i64 at'], .rp [.sl .str ys]] [] _
  refine Ev.out ?_
  repeat' (first | ((with_reducible refine Ev.mk ?_); conv => whnf) | (with_reducible refine And.intro ?_ ?_) | (intro h))
  · exact Leaf.mk trivial
  · exact Leaf.mk (ret1 (show meet ks ys = (decide (ts > at') && meet ks ys) by rw [h]; rfl))
  · exact Leaf.mk (ret1 (show false = (decide (ts > at') && meet ks ys) by rw [h]; rfl))
def sIndexFuncE : PSpec := ⟨[.d (.slice EntT), .lam EntT .bool], [⟨false, [.d (.int .i64)]⟩], fun _ => True, fun x => ((idxF x.2.1 x.1 0, ()), ())⟩
theorem fIndexFuncE : FnOk Try.prog 80 := ⟨_, Try.func80, by decide, rfl⟩
theorem pIndexFuncE : PSound Try.prog 80 sIndexFuncE := by
  refine psound (T := tab) (S := (spOf [])) (keep := k80) (by kernel_rfl) tabOk spNil (by kernel_rfl) Try.func80 (by kernel_rfl) (by decide) fun xs hg hp => ?_
  obtain ⟨xs, p, ⟨⟩⟩ := xs
  obtain ⟨⟨hl, -⟩, -⟩ := hg
  change List Ent at xs
  change Ent → Bool at p
  have hl := len63 hl
  clear hp
  show vfun tab _ k80 Try.f80 [.sl EntT xs, .lam EntT .bool p] [] _
  refine Ev.out ?_
  repeat' (first | ((with_reducible refine Ev.mk ?_); conv => whnf) | (with_reducible refine And.intro ?_ ?_) | (intro h))
  refine LoopVC.on (fun i : Nat => [(8, .i .i64 i)]) (fun _ => []) (fun i => i ≤ xs.length ∧ idxF p xs 0 = idxF p (xs.drop i) i) (fun i => xs.length - i) 0 rfl ⟨by omega, by simp⟩ ?_
  intro i ⟨hi, he⟩
  repeat' (first | ((with_reducible refine Ev.mk ?_); conv => whnf) | (with_reducible refine And.intro ?_ ?_) | (intro h))
  all_goals (try simp only [decide_eq_true_eq, decide_eq_false_iff_not, beq_iff_eq, bne_iff_ne, beq_eq_false_iff_ne, bne_eq_false_iff_eq, Int.toNat_natCast, ge_iff_le, gt_iff_lt, Bool.not_eq_true', Bool.not_eq_false', Int.not_lt, Int.not_le, ne_eq] at *)
  all_goals (try dsimp only [Ty.den, Ty.dflt, EntT] at *)
  all_goals (try simp only [eq4, ne4, eq3, ne3, eq2, ne2, Prod.eta, List.length_cons, List.length_nil, List.length_append, Nat.zero_add] at *)
  all_goals (try simp (disch := omega) only [wrap64] at *)
  all_goals try first | exact leafDraw (by kernel_rfl) | exact Leaf.mk trivial | (refine Leaf.mk ?_; omega) | (refine Leaf.mk ?_; unfold maxLen; omega)
  all_goals first
    | (rw [drop_end (by omega)] at he; exact Leaf.mk (ret1 he.symm))
    | (rw [drop_at (0, []) (by omega), idxF, if_pos (by assumption)] at he; exact Leaf.mk (ret1 he.symm))
    | (rw [drop_at (0, []) (by omega), idxF, if_neg (by simp_all)] at he; exact Leaf.mk ⟨i + 1, rfl, ⟨by omega, he⟩, by omega⟩)
theorem fFirst : FnOk Try.prog 26 := ⟨_, Try.func26, by decide, rfl⟩
theorem pFirst : PSound Try.prog 26 sFirst := by
  refine psound (T := tab) (S := (spOf [(80, sIndexFuncE.spec (lsOf [(81, lFirst1)]))])) (keep := k26) (by kernel_rfl) tabOk (spCons (pOk pIndexFuncE fIndexFuncE (by decide) ((lsCons ⟨pFirst1, fFirst1⟩ lsNil))) spNil) (by kernel_rfl) Try.func26 (by kernel_rfl) (by decide) fun xs hg hp => ?_
  obtain ⟨xs, at', ks, ⟨⟩⟩ := xs
  obtain ⟨⟨hl, -⟩, -⟩ := hg
  change List Ent at xs
  change Int at at'
  change List (List UInt8) at ks
  change xs.length ≤ _ at hl
  have hl := len63 hl
  clear hp
  show vfun tab _ k26 Try.f26 [.sl EntT xs, .i .i64 at', .sl .str ks] [] _
  refine Ev.out ?_
  repeat' (first | ((with_reducible refine Ev.mk ?_); conv => whnf) | (with_reducible refine And.intro ?_ ?_) | (intro h))
  all_goals (try simp only [decide_eq_true_eq, decide_eq_false_iff_not, beq_iff_eq, bne_iff_ne, beq_eq_false_iff_ne, bne_eq_false_iff_eq, Int.toNat_natCast, ge_iff_le, gt_iff_lt, Bool.not_eq_true', Bool.not_eq_false', Int.not_lt, Int.not_le, ne_eq] at *)
  all_goals (try dsimp only [Ty.den, Ty.dflt, EntT, sIndexFuncE] at *)
  all_goals (try simp only [eq4, ne4, eq3, ne3, eq2, ne2, Prod.eta, List.length_cons, List.length_nil, List.length_append, Nat.zero_add] at *)
  all_goals (try simp (disch := omega) only [wrap64] at *)
  all_goals try first | exact leafDraw (by kernel_rfl) | exact Leaf.mk trivial | (refine Leaf.mk ?_; omega) | (refine Leaf.mk ?_; unfold maxLen; omega)
  all_goals
    have hf := idxF_find ((0, []) : Ent) (firstP at' ks) xs 0
  · have h : idxF (firstP at' ks) xs 0 < 0 := h
    have hn : firstL xs at' ks = none := by
      rcases hf with ⟨_, h2⟩ | ⟨j, h1, _, _⟩
      · exact h2
      · omega
    exact Leaf.mk (ret2 (b := false) (show (0 : Int) = ((firstL xs at' ks).getD (0, [])).1 by rw [hn]; rfl) (show false = (firstL xs at' ks).isSome by rw [hn]; rfl))
  · have hp := idxF_pos (firstP at' ks) xs 0
    have h : 0 ≤ idxF (firstP at' ks) xs 0 := h
    exact Leaf.mk (show idxF (firstP at' ks) xs 0 < (xs.length : Int) by omega)
  · have h : 0 ≤ idxF (firstP at' ks) xs 0 := h
    have hn : firstL xs at' ks = some (xs.getD (idxF (firstP at' ks) xs 0).toNat (0, [])) := by
      rcases hf with ⟨h1, h2⟩ | ⟨j, h1, _, h3⟩
      · omega
      · rw [h1, show (((0 : Nat) : Int) + (j : Int)).toNat = j by omega]; exact h3
    exact Leaf.mk (ret2 (b := true) (show _ = ((firstL xs at' ks).getD (0, [])).1 by rw [hn]; rfl) (show true = (firstL xs at' ks).isSome by rw [hn]; rfl))
theorem fFirstR : FnOk Try.prog 27 := ⟨_, Try.func27, by decide, rfl⟩
theorem pFirstR : PSound Try.prog 27 sFirstR := by
  refine psound (T := tab) (S := (spOf [(32, sMeetR.spec (lsOf []))])) (keep := k27) (by kernel_rfl) tabOk (spCons (pOk pMeetR fMeetR (by decide) lsNil) spNil) (by kernel_rfl) Try.func27 (by kernel_rfl) (by decide) fun xs hg hp => ?_
  obtain ⟨xs, at', ks, ⟨⟩⟩ := xs
  obtain ⟨⟨hl, -⟩, -⟩ := hg
  change List Ent at xs
  change Int at at'
  change List (List UInt8) at ks
  change xs.length ≤ _ at hl
  have hl := len63 hl
  clear hp
  show vfun tab _ k27 Try.f27 [.sl EntT xs, .i .i64 at', .sl .str ks] [] _
  refine Ev.out ?_
  repeat' (first | ((with_reducible refine Ev.mk ?_); conv => whnf) | (with_reducible refine And.intro ?_ ?_) | (intro h))
  refine LoopVC.on (fun i : Nat => [(8, .i .i64 i)]) (fun _ => []) (fun i => i ≤ xs.length ∧ firstL xs at' ks = firstL (xs.drop i) at' ks) (fun i => xs.length - i) 0 rfl ⟨by omega, by simp⟩ ?_
  intro i ⟨hi, he⟩
  repeat' (first | ((with_reducible refine Ev.mk ?_); conv => whnf) | (with_reducible refine And.intro ?_ ?_) | (intro h))
  all_goals (try simp only [decide_eq_true_eq, decide_eq_false_iff_not, beq_iff_eq, bne_iff_ne, beq_eq_false_iff_ne, bne_eq_false_iff_eq, Int.toNat_natCast, ge_iff_le, gt_iff_lt, Bool.not_eq_true', Bool.not_eq_false', Int.not_lt, Int.not_le, ne_eq] at *)
  all_goals (try dsimp only [Ty.den, Ty.dflt, EntT, sMeetR, sMeet] at *)
  all_goals (try simp only [eq4, ne4, eq3, ne3, eq2, ne2, Prod.eta, List.length_cons, List.length_nil, List.length_append, Nat.zero_add] at *)
  all_goals (try simp (disch := omega) only [wrap64] at *)
  all_goals try first | exact leafDraw (by kernel_rfl) | exact Leaf.mk trivial | (refine Leaf.mk ?_; omega) | (refine Leaf.mk ?_; unfold maxLen; omega)
  · have hx : firstP at' ks (xs.getD i (0, [])) = true := by rw [firstP, decide_eq_true h]; assumption
    unfold firstL at he; rw [drop_at ((0, []) : Ent) (by omega), List.find?_cons, hx] at he
    exact Leaf.mk (ret2 (b := true) (show _ = ((firstL xs at' ks).getD (0, [])).1 by unfold firstL; rw [he]; rfl) (show true = (firstL xs at' ks).isSome by unfold firstL; rw [he]; rfl))
  · have hx : firstP at' ks (xs.getD i (0, [])) = false := by rw [firstP, decide_eq_true h]; assumption
    unfold firstL at he; rw [drop_at ((0, []) : Ent) (by omega), List.find?_cons, hx] at he
    exact Leaf.mk ⟨i + 1, rfl, ⟨by omega, he⟩, by omega⟩
  · have hx : firstP at' ks (xs.getD i (0, [])) = false := by rw [firstP, decide_eq_false (Int.not_lt.2 h)]; rfl
    unfold firstL at he; rw [drop_at ((0, []) : Ent) (by omega), List.find?_cons, hx] at he
    exact Leaf.mk ⟨i + 1, rfl, ⟨by omega, he⟩, by omega⟩
  · rw [drop_end (by omega)] at he
    exact Leaf.mk (ret2 (b := false) (show (0 : Int) = ((firstL xs at' ks).getD (0, [])).1 by rw [he]; rfl) (show false = (firstL xs at' ks).isSome by rw [he]; rfl))
end Go.Proofs.Ytlfehkoklgmjjaa
