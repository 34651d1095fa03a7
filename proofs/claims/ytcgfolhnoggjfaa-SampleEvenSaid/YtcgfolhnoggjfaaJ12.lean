import Derived.Test.YtcgfolhnoggjfaaJ11



set_option linter.unusedVariables false
set_option linter.unusedSimpArgs false
set_option maxRecDepth 8000
set_option maxHeartbeats 4000000
namespace Go.Proofs.Ytcgfolhnoggjfaa
open Go.Eng
theorem eq3C {α β γ : Type} [BEq α] [LawfulBEq α] [BEq β] [LawfulBEq β] [BEq γ] [LawfulBEq γ] {x y : α × β × γ} : (x.1 == y.1 && (x.2.1 == y.2.1 && x.2.2 == y.2.2)) = true ↔ x = y := by
  obtain ⟨a, b, c⟩ := x; obtain ⟨d, e, f⟩ := y
  simp
theorem ne3C {α β γ : Type} [BEq α] [LawfulBEq α] [BEq β] [LawfulBEq β] [BEq γ] [LawfulBEq γ] {x y : α × β × γ} : (x.1 == y.1 && (x.2.1 == y.2.1 && x.2.2 == y.2.2)) = false ↔ ¬ x = y := by
  rw [← eq3C, Bool.not_eq_true]
theorem same_notC {α : Type} [DecidableEq α] (d : α) {xs ys : List α} {i : Nat} (h : ¬ xs.getD i d = ys.getD i d) : ¬ xs = ys := fun hc => h (by rw [hc])
theorem same_stepC {α : Type} (d : α) {xs ys : List α} {i : Nat} (h : i < xs.length) (he : xs.take i = ys.take i) (h2 : i < ys.length) (hd : xs.getD i d = ys.getD i d) : xs.take (i + 1) = ys.take (i + 1) := by
  rw [take_at d h, take_at d h2, he, hd]
theorem same_endC {α : Type} {xs ys : List α} {i : Nat} (h : xs.length ≤ i) (he : xs.take i = ys.take i) (h2 : ys.length ≤ i) : xs = ys := by
  rwa [List.take_of_length_le h, List.take_of_length_le h2] at he
theorem all_atC {α : Type} (d : α) {p : α → Bool} {xs : List α} {i : Nat} (h : i < xs.length) : (xs.take (i + 1)).all p = ((xs.take i).all p && p (xs.getD i d)) := by
  rw [take_at d h, List.all_append]; simp
theorem all_noC {α : Type} (d : α) {p : α → Bool} {xs : List α} {i : Nat} (h : i < xs.length) (hn : p (xs.getD i d) = false) : xs.all p = false := by
  rw [List.all_eq_false]
  refine ⟨xs.getD i d, ?_, by rw [hn]; simp⟩
  rw [List.getD_eq_getElem?_getD, List.getElem?_eq_getElem h]; exact List.getElem_mem _
def sameC (a b : List Cnt) : Bool := decide (a = b)
def sSameC : PSpec := ⟨[.d CntsT, .d CntsT], [⟨false, [.d .bool]⟩], fun _ => True, fun x => ((sameC x.1 x.2.1, ()), ())⟩
theorem fSameC : FnOk Try.prog 25 := ⟨_, Try.func25, by decide, rfl⟩
theorem pSameC : PSound Try.prog 25 sSameC := by
  refine psound (T := tab) (S := (spOf [])) (keep := k25) (by kernel_rfl) tabOk spNil (by kernel_rfl) Try.func25 (by kernel_rfl) (by decide) fun xs hg hp => ?_
  obtain ⟨xs, ys, ⟨⟩⟩ := xs
  obtain ⟨⟨hl, -⟩, ⟨hl2, -⟩, -⟩ := hg
  have hl := len63 hl
  have hl2 := len63 hl2
  change List Cnt at xs ys
  change xs.length ≤ _ at hl
  change ys.length ≤ _ at hl2
  clear hp
  show vfun tab _ k25 Try.f25 [.sl CntT xs, .sl CntT ys] [] _
  refine Ev.out ?_
  repeat' (first | ((with_reducible refine Ev.mk ?_); conv => whnf) | (with_reducible refine And.intro ?_ ?_) | (intro h))
  all_goals (try simp only [decide_eq_true_eq, decide_eq_false_iff_not, beq_iff_eq, bne_iff_ne, beq_eq_false_iff_ne, bne_eq_false_iff_eq, Int.toNat_natCast, ge_iff_le, gt_iff_lt, Bool.not_eq_true', Bool.not_eq_false', Int.not_lt, Int.not_le, ne_eq] at *)
  all_goals (try dsimp only [Ty.den, Ty.dflt, CntT] at *)
  all_goals (try simp only [eq4, ne4, eq3, ne3, eq2, ne2, Prod.eta, List.length_cons, List.length_nil, List.length_append, Nat.zero_add] at *)
  all_goals (try simp (disch := omega) only [wrap64] at *)
  · refine Leaf.mk (ret1 (show false = sameC xs ys from ?_))
    rw [sameC, eq_comm, decide_eq_false_iff_not]; intro hc; subst hc; omega
  refine LoopVC.on (fun i : Nat => [(5, .i .i64 i)]) (fun _ => []) (fun i => i ≤ xs.length ∧ xs.take i = ys.take i) (fun i => xs.length - i) 0 rfl ⟨by omega, by simp⟩ ?_
  intro i ⟨hi, he⟩
  repeat' (first | ((with_reducible refine Ev.mk ?_); conv => whnf) | (with_reducible refine And.intro ?_ ?_) | (intro h))
  all_goals (try simp only [decide_eq_true_eq, decide_eq_false_iff_not, beq_iff_eq, bne_iff_ne, beq_eq_false_iff_ne, bne_eq_false_iff_eq, Int.toNat_natCast, ge_iff_le, gt_iff_lt, Bool.not_eq_true', Bool.not_eq_false', Int.not_lt, Int.not_le, ne_eq] at *)
  all_goals (try dsimp only [Ty.den, Ty.dflt, CntT] at *)
  all_goals (try simp only [eq4, ne4, eq3, ne3, eq2, ne2, Prod.eta, List.length_cons, List.length_nil, List.length_append, Nat.zero_add] at *)
  all_goals (try simp (disch := omega) only [wrap64] at *)
  all_goals try first | exact leafDraw (by kernel_rfl) | exact Leaf.mk trivial | (refine Leaf.mk ?_; omega) | (refine Leaf.mk ?_; unfold maxLen; omega)
  all_goals try rw [eq3C] at h
  all_goals try rw [ne3C] at h
  all_goals first
    | exact Leaf.mk (ret1 (show false = decide (xs = ys) by rw [eq_comm, decide_eq_false_iff_not]; exact same_notC cnt0 h))
    | exact Leaf.mk ⟨i + 1, rfl, ⟨by omega, same_stepC cnt0 (by omega) he (by omega) h⟩, by omega⟩
    | exact Leaf.mk (ret1 (show true = decide (xs = ys) by rw [eq_comm, decide_eq_true_eq]; exact same_endC (by omega) he (by omega)))
    | (trace_state; sorry)
def sOwnC : PSpec := ⟨[.d CntsT], [⟨false, [.d CntsT]⟩], fun x => List.length x.1 ≤ 100000, fun x => ((x.1, ()), ())⟩
theorem fOwnC : FnOk Try.prog 24 := ⟨_, Try.func24, by decide, rfl⟩
theorem pOwnC : PSound Try.prog 24 sOwnC := by
  refine psound (T := tab) (S := (spOf [])) (keep := k24) (by kernel_rfl) tabOk spNil (by kernel_rfl) Try.func24 (by kernel_rfl) (by decide) fun xs hg hp => ?_
  obtain ⟨xs, ⟨⟩⟩ := xs
  change List Cnt at xs
  change xs.length ≤ 100000 at hp
  clear hg
  show vfun tab _ k24 Try.f24 [.sl CntT xs] [] _
  refine Ev.out ?_
  repeat' (first | ((with_reducible refine Ev.mk ?_); conv => whnf) | (with_reducible refine And.intro ?_ ?_) | (intro h))
  all_goals (try simp only [decide_eq_true_eq, decide_eq_false_iff_not, beq_iff_eq, bne_iff_ne, beq_eq_false_iff_ne, bne_eq_false_iff_eq, Int.toNat_natCast, ge_iff_le, gt_iff_lt, Bool.not_eq_true', Bool.not_eq_false', Int.not_lt, Int.not_le, ne_eq] at *)
  all_goals (try dsimp only [Ty.den, Ty.dflt, CntT] at *)
  all_goals (try simp only [eq4, ne4, eq3, ne3, eq2, ne2, Prod.eta, List.length_cons, List.length_nil, List.length_append, Nat.zero_add] at *)
  all_goals (try simp (disch := omega) only [wrap64] at *)
  all_goals try first | exact leafDraw (by kernel_rfl) | exact Leaf.mk trivial | (refine Leaf.mk ?_; omega) | (refine Leaf.mk ?_; unfold maxLen; omega)
  refine LoopVC.weak [(.slot 3, .nil 49 CntT)] (fun i : Nat => [(4, .i .i64 i)]) (fun i => [(0, .arr 49 CntT (xs.take i))]) (fun i => i ≤ xs.length) (fun i => xs.length - i) 0 (Ev.mk ?_)
  (conv => whnf)
  refine ⟨Leaf.mk rfl, Leaf.mk ?_, ?_⟩
  · omega
  intro i hi
  have htl : (xs.take i).length ≤ i := by rw [List.length_take]; omega
  repeat' (first | ((with_reducible refine Ev.mk ?_); conv => whnf) | (with_reducible refine And.intro ?_ ?_) | (intro h))
  all_goals (try simp only [decide_eq_true_eq, decide_eq_false_iff_not, beq_iff_eq, bne_iff_ne, beq_eq_false_iff_ne, bne_eq_false_iff_eq, Int.toNat_natCast, ge_iff_le, gt_iff_lt, Bool.not_eq_true', Bool.not_eq_false', Int.not_lt, Int.not_le, ne_eq] at *)
  all_goals (try dsimp only [Ty.den, Ty.dflt, CntT] at *)
  all_goals (try simp only [eq4, ne4, eq3, ne3, eq2, ne2, Prod.eta, List.length_cons, List.length_nil, List.length_append, Nat.zero_add] at *)
  all_goals (try simp (disch := omega) only [wrap64] at *)
  all_goals try first | exact leafDraw (by kernel_rfl) | exact Leaf.mk trivial | (refine Leaf.mk ?_; omega) | (refine Leaf.mk ?_; unfold maxLen; omega)
  all_goals first
    | (refine Leaf.mk ?_; omega)
    | (refine Leaf.mk ?_; unfold maxLen; omega)
    | (refine Leaf.mk ⟨i + 1, ?_, by omega, by omega⟩
       rw [take_at cnt0 (by omega)]; rfl)
    | (refine Leaf.mk (ret1 (show xs.take i = xs from ?_))
       exact take_all (by omega))
    | (trace_state; sorry)
def lightC1 (m : Cnt) : Bool := decide ((-1125899906842624 ≤ m.2.1 ∧ m.2.1 ≤ 1125899906842624) ∧ -1125899906842624 ≤ m.2.2 ∧ m.2.2 ≤ 1125899906842624)
def lightC (l : List Cnt) : Bool := decide (l.length ≤ 30) && l.all lightC1
def sLightC : PSpec := ⟨[.d CntsT], [⟨false, [.d .bool]⟩], fun _ => True, fun x => ((lightC x.1, ()), ())⟩
theorem fLightC : FnOk Try.prog 23 := ⟨_, Try.func23, by decide, rfl⟩
theorem pLightC : PSound Try.prog 23 sLightC := by
  refine psound (T := tab) (S := (spOf [])) (keep := k23) (by kernel_rfl) tabOk spNil (by kernel_rfl) Try.func23 (by kernel_rfl) (by decide) fun xs hg hp => ?_
  obtain ⟨xs, ⟨⟩⟩ := xs
  obtain ⟨⟨hl, hx⟩, -⟩ := hg
  change List Cnt at xs
  change xs.length ≤ _ at hl
  have hl := len63 hl
  clear hp
  show vfun tab _ k23 Try.f23 [.sl CntT xs] [] _
  refine Ev.out ?_
  repeat' (first | ((with_reducible refine Ev.mk ?_); conv => whnf) | (with_reducible refine And.intro ?_ ?_) | (intro h))
  all_goals (try simp only [decide_eq_true_eq, decide_eq_false_iff_not, beq_iff_eq, bne_iff_ne, beq_eq_false_iff_ne, bne_eq_false_iff_eq, Int.toNat_natCast, ge_iff_le, gt_iff_lt, Bool.not_eq_true', Bool.not_eq_false', Int.not_lt, Int.not_le, ne_eq] at *)
  all_goals (try dsimp only [Ty.den, Ty.dflt, CntT] at *)
  all_goals (try simp only [eq4, ne4, eq3, ne3, eq2, ne2, Prod.eta, List.length_cons, List.length_nil, List.length_append, Nat.zero_add] at *)
  all_goals (try simp (disch := omega) only [wrap64] at *)
  all_goals try first | exact leafDraw (by kernel_rfl) | exact Leaf.mk trivial | (refine Leaf.mk ?_; omega) | (refine Leaf.mk ?_; unfold maxLen; omega)
  · refine Leaf.mk (ret1 (show false = lightC xs from ?_))
    rw [lightC, decide_eq_false (by omega), Bool.false_and]
  refine LoopVC.on (fun i : Nat => [(3, .i .i64 i)]) (fun _ => []) (fun i => i ≤ xs.length ∧ (xs.take i).all lightC1 = true) (fun i => xs.length - i) 0 rfl ⟨by omega, rfl⟩ ?_
  intro i ⟨hi, he⟩
  repeat' (first | ((with_reducible refine Ev.mk ?_); conv => whnf) | (with_reducible refine And.intro ?_ ?_) | (intro h))
  all_goals (try simp only [decide_eq_true_eq, decide_eq_false_iff_not, beq_iff_eq, bne_iff_ne, beq_eq_false_iff_ne, bne_eq_false_iff_eq, Int.toNat_natCast, ge_iff_le, gt_iff_lt, Bool.not_eq_true', Bool.not_eq_false', Int.not_lt, Int.not_le, ne_eq] at *)
  all_goals (try dsimp only [Ty.den, Ty.dflt, CntT] at *)
  all_goals (try simp only [eq4, ne4, eq3, ne3, eq2, ne2, Prod.eta, List.length_cons, List.length_nil, List.length_append, Nat.zero_add] at *)
  all_goals (try simp (disch := omega) only [wrap64] at *)
  all_goals try first | exact leafDraw (by kernel_rfl) | exact Leaf.mk trivial | (refine Leaf.mk ?_; omega) | (refine Leaf.mk ?_; unfold maxLen; omega)
  all_goals first
    | (refine Leaf.mk (ret1 (show false = lightC xs from ?_))
       rw [lightC, all_noC cnt0 (by omega) (show lightC1 (xs.getD i cnt0) = false from decide_eq_false (fun hc => by have h1 := hc.1; have h2 := hc.2; dsimp only [cnt0] at *; omega)), Bool.and_false]
       done)
    | (refine Leaf.mk ⟨i + 1, rfl, ⟨by omega, ?_⟩, by omega⟩
       rw [all_atC cnt0 (by omega), he, Bool.true_and]; exact decide_eq_true ⟨⟨by dsimp only [cnt0] at *; omega, by dsimp only [cnt0] at *; omega⟩, by dsimp only [cnt0] at *; omega, by dsimp only [cnt0] at *; omega⟩)
    | (refine Leaf.mk (ret1 (show true = lightC xs from ?_))
       rw [List.take_of_length_le (by omega)] at he
       rw [lightC, he, Bool.and_true, decide_eq_true (by omega)]
       done)
    | (trace_state; sorry)
theorem lightC_of {l : List Cnt} (h : lightC l = true) : l.length ≤ 30 ∧ bdK l := by
  rw [lightC, Bool.and_eq_true] at h
  exact ⟨of_decide_eq_true h.1, fun x hx => (of_decide_eq_true (List.all_eq_true.1 h.2 x hx)).1⟩
theorem sameC_self {a : List Cnt} (h : sameC a a = false) {P : Prop} : P := absurd h (by rw [sameC, decide_eq_true rfl]; simp)
end Go.Proofs.Ytcgfolhnoggjfaa
