import Derived.Test.YtbobjiaggngbmaaQ8
import Derived.Shelf.Sort.Plain
import Derived.Shelf.SlSortCmp.NoneTotal
import Derived.Test.YtbobjiaggngbmaaProg
import Derived.Test.YtbobjiaggngbmaaEng5
import Derived.Test.YtbobjiaggngbmaaEng6
import Derived.Test.YtbobjiaggngbmaaEng4
/- Texts, one behind the other. -/
set_option linter.unusedVariables false
set_option linter.unusedSimpArgs false
set_option maxRecDepth 8000
set_option maxHeartbeats 4000000
namespace Go.Proofs.Ytbobjiaggngbmaa
open Go.Eng
abbrev RgsT : Ty := .slice RgT
def endR (r : Rg) : Bool := r.2 == []
def sEndless : PSpec := ⟨[.d RgT], [⟨false, [.d .bool]⟩], fun _ => True, fun x => ((endR x.1, ()), ())⟩
theorem fEndless : FnOk Try.prog 41 := ⟨_, Try.func41, by decide, rfl⟩
theorem pEndless : PSound Try.prog 41 sEndless := by
  refine psound (T := tab) (S := (spOf [])) (keep := k41) (by kernel_rfl) tabOk spNil (by kernel_rfl) Try.func41 (by kernel_rfl) (by decide) fun xs hg hp => ?_
  obtain ⟨⟨lo, hi⟩, ⟨⟩⟩ := xs
  change List UInt8 at lo hi
  show vfun tab _ k41 Try.f41 [.agg [.s lo, .s hi]] [] _
  refine Ev.out ?_
  repeat' (first | ((with_reducible refine Ev.mk ?_); conv => whnf) | (with_reducible refine And.intro ?_ ?_) | (intro h))
  all_goals exact Leaf.mk rfl
def sEmpty : PSpec := ⟨[.d RgT], [⟨false, [.d .bool]⟩], fun _ => True, fun x => ((emptyR x.1, ()), ())⟩
theorem fEmpty : FnOk Try.prog 40 := ⟨_, Try.func40, by decide, rfl⟩
theorem pEmpty : PSound Try.prog 40 sEmpty := by
  refine psound (T := tab) (S := (spOf [(41, sEndless.spec (lsOf []))])) (keep := k40) (by kernel_rfl) tabOk (spCons (pOk pEndless fEndless (by decide) lsNil) spNil) (by kernel_rfl) Try.func40 (by kernel_rfl) (by decide) fun xs hg hp => ?_
  obtain ⟨⟨lo, hi⟩, ⟨⟩⟩ := xs
  change List UInt8 at lo hi
  show vfun tab _ k40 Try.f40 [.agg [.s lo, .s hi]] [] _
  refine Ev.out ?_
  repeat' (first | ((with_reducible refine Ev.mk ?_); conv => whnf) | (with_reducible refine And.intro ?_ ?_) | (intro h))
  all_goals (try simp only [decide_eq_true_eq, decide_eq_false_iff_not, beq_iff_eq, bne_iff_ne, beq_eq_false_iff_ne, bne_eq_false_iff_eq, Int.toNat_natCast, ge_iff_le, gt_iff_lt, Bool.not_eq_true', Bool.not_eq_false', Int.not_lt, Int.not_le, ne_eq] at *)
  all_goals (try dsimp only [Ty.den, Ty.dflt, RgT, sEndless] at *)
  all_goals (try simp only [eq4, ne4, eq3, ne3, eq2, ne2, Prod.eta, List.length_cons, List.length_nil, List.length_append, Nat.zero_add] at *)
  all_goals (try simp (disch := omega) only [wrap64] at *)
  all_goals try first | exact leafDraw (by kernel_rfl) | exact Leaf.mk trivial | (refine Leaf.mk ?_; omega) | (refine Leaf.mk ?_; unfold maxLen; omega)
  all_goals
    refine Leaf.mk (ret1 (show _ = emptyR (lo, hi) from ?_))
    simp_all [emptyR, endR]
def sHasR1 : PSpec := ⟨[.d RgT, .d .str], [⟨false, [.d .bool]⟩], fun _ => True, fun x => ((inRg x.1 x.2.1, ()), ())⟩
theorem fHasR1 : FnOk Try.prog 58 := ⟨_, Try.func58, by decide, rfl⟩
theorem pHasR1 : PSound Try.prog 58 sHasR1 := by
  refine psound (T := tab) (S := (spOf [(41, sEndless.spec (lsOf []))])) (keep := k58) (by kernel_rfl) tabOk (spCons (pOk pEndless fEndless (by decide) lsNil) spNil) (by kernel_rfl) Try.func58 (by kernel_rfl) (by decide) fun xs hg hp => ?_
  obtain ⟨⟨lo, hi⟩, k, ⟨⟩⟩ := xs
  change List UInt8 at lo hi k
  show vfun tab _ k58 Try.f58 [.agg [.s lo, .s hi], .s k] [] _
  refine Ev.out ?_
  repeat' (first | ((with_reducible refine Ev.mk ?_); conv => whnf) | (with_reducible refine And.intro ?_ ?_) | (intro h))
  all_goals (try simp only [decide_eq_true_eq, decide_eq_false_iff_not, beq_iff_eq, bne_iff_ne, beq_eq_false_iff_ne, bne_eq_false_iff_eq, Int.toNat_natCast, ge_iff_le, gt_iff_lt, Bool.not_eq_true', Bool.not_eq_false', Int.not_lt, Int.not_le, ne_eq] at *)
  all_goals (try dsimp only [Ty.den, Ty.dflt, RgT, sEndless] at *)
  all_goals (try simp only [eq4, ne4, eq3, ne3, eq2, ne2, Prod.eta, List.length_cons, List.length_nil, List.length_append, Nat.zero_add] at *)
  all_goals (try simp (disch := omega) only [wrap64] at *)
  all_goals try first | exact leafDraw (by kernel_rfl) | exact Leaf.mk trivial | (refine Leaf.mk ?_; omega) | (refine Leaf.mk ?_; unfold maxLen; omega)
  all_goals
    refine Leaf.mk (ret1 (show _ = inRg (lo, hi) k from ?_))
    simp_all [inRg, endR]
def sIndexFuncR : PSpec := ⟨[.d (.slice RgT), .lam RgT .bool], [⟨false, [.d (.int .i64)]⟩], fun _ => True, fun x => ((idxF x.2.1 x.1 0, ()), ())⟩
theorem fIndexFuncR : FnOk Try.prog 79 := ⟨_, Try.func79, by decide, rfl⟩
theorem pIndexFuncR : PSound Try.prog 79 sIndexFuncR := by
  refine psound (T := tab) (S := (spOf [])) (keep := k79) (by kernel_rfl) tabOk spNil (by kernel_rfl) Try.func79 (by kernel_rfl) (by decide) fun xs hg hp => ?_
  obtain ⟨xs, p, ⟨⟩⟩ := xs
  obtain ⟨⟨hl, -⟩, -⟩ := hg
  change List Rg at xs
  change Rg → Bool at p
  have hl := len63 hl
  clear hp
  show vfun tab _ k79 Try.f79 [.sl RgT xs, .lam RgT .bool p] [] _
  refine Ev.out ?_
  repeat' (first | ((with_reducible refine Ev.mk ?_); conv => whnf) | (with_reducible refine And.intro ?_ ?_) | (intro h))
  refine LoopVC.on (fun i : Nat => [(8, .i .i64 i)]) (fun _ => []) (fun i => i ≤ xs.length ∧ idxF p xs 0 = idxF p (xs.drop i) i) (fun i => xs.length - i) 0 rfl ⟨by omega, by simp⟩ ?_
  intro i ⟨hi, he⟩
  repeat' (first | ((with_reducible refine Ev.mk ?_); conv => whnf) | (with_reducible refine And.intro ?_ ?_) | (intro h))
  all_goals (try simp only [decide_eq_true_eq, decide_eq_false_iff_not, beq_iff_eq, bne_iff_ne, beq_eq_false_iff_ne, bne_eq_false_iff_eq, Int.toNat_natCast, ge_iff_le, gt_iff_lt, Bool.not_eq_true', Bool.not_eq_false', Int.not_lt, Int.not_le, ne_eq] at *)
  all_goals (try dsimp only [Ty.den, Ty.dflt, RgT] at *)
  all_goals (try simp only [eq4, ne4, eq3, ne3, eq2, ne2, Prod.eta, List.length_cons, List.length_nil, List.length_append, Nat.zero_add] at *)
  all_goals (try simp (disch := omega) only [wrap64] at *)
  all_goals try first | exact leafDraw (by kernel_rfl) | exact Leaf.mk trivial | (refine Leaf.mk ?_; omega) | (refine Leaf.mk ?_; unfold maxLen; omega)
  all_goals first
    | (rw [drop_end (by omega)] at he; exact Leaf.mk (ret1 he.symm))
    | (rw [drop_at rg0 (by omega), idxF, if_pos (by assumption)] at he; exact Leaf.mk (ret1 he.symm))
    | (rw [drop_at rg0 (by omega), idxF, if_neg (by simp_all)] at he; exact Leaf.mk ⟨i + 1, rfl, ⟨by omega, he⟩, by omega⟩)
def sContainsR : PSpec := ⟨[.d (.slice RgT), .lam RgT .bool], [⟨false, [.d .bool]⟩], fun _ => True, fun x => ((List.any x.1 x.2.1, ()), ())⟩
theorem fContainsR : FnOk Try.prog 56 := ⟨_, Try.func56, by decide, rfl⟩
theorem pContainsR : PSound Try.prog 56 sContainsR := by
  refine psound (T := tab) (S := (spOf [(79, sIndexFuncR.spec (lsOf []))])) (keep := k56) (by kernel_rfl) tabOk (spCons (pOk pIndexFuncR fIndexFuncR (by decide) lsNil) spNil) (by kernel_rfl) Try.func56 (by kernel_rfl) (by decide) fun xs hg hp => ?_
  obtain ⟨xs, p, ⟨⟩⟩ := xs
  change List Rg at xs
  change Rg → Bool at p
  show vfun tab _ k56 Try.f56 [.sl RgT xs, .lam RgT .bool p] [] _
  refine Ev.out ?_
  repeat' (first | ((with_reducible refine Ev.mk ?_); conv => whnf) | (with_reducible refine And.intro ?_ ?_) | (intro h))
  · exact Leaf.mk trivial
  · exact Leaf.mk (ret1 (idxF_any xs 0))
def lHasX : LSpec := ⟨RgT, .bool, [.bx .str], fun r c => inRg r c.1⟩
theorem fHasX : FnOk Try.prog 57 := ⟨_, Try.func57, by decide, rfl⟩
theorem pHasX : PSound Try.prog 57 lHasX.p := by
  refine psound (T := tab) (S := (spOf [(58, sHasR1.spec (lsOf []))])) (keep := k57) (by kernel_rfl) tabOk (spCons (pOk pHasR1 fHasR1 (by decide) lsNil) spNil) (by kernel_rfl) Try.func57 (by kernel_rfl) (by decide) fun xs hg hp => ?_
  obtain ⟨⟨lo, hi⟩, k, ⟨⟩⟩ := xs
  change List UInt8 at lo hi k
  show vfun tab _ k57 Try.f57 [.agg [.s lo, .s hi], .rp [.s k]] [] _
  refine Ev.out ?_
  repeat' (first | ((with_reducible refine Ev.mk ?_); conv => whnf) | (with_reducible refine And.intro ?_ ?_) | (intro h))
  all_goals first | exact Leaf.mk trivial | exact Leaf.mk rfl
def sHasA : PSpec := ⟨[.d RgsT, .d .str], [⟨false, [.d .bool]⟩], fun _ => True, fun x => ((hasRg x.1 x.2.1, ()), ())⟩
theorem fHasA : FnOk Try.prog 28 := ⟨_, Try.func28, by decide, rfl⟩
theorem pHasA : PSound Try.prog 28 sHasA := by
  refine psound (T := tab) (S := (spOf [(56, sContainsR.spec (lsOf [(57, lHasX)]))])) (keep := k28) (by kernel_rfl) tabOk (spCons (pOk pContainsR fContainsR (by decide) ((lsCons ⟨pHasX, fHasX⟩ lsNil))) spNil) (by kernel_rfl) Try.func28 (by kernel_rfl) (by decide) fun xs hg hp => ?_
  obtain ⟨l, k, ⟨⟩⟩ := xs
  change List Rg at l
  change List UInt8 at k
  show vfun tab _ k28 Try.f28 [.sl RgT l, .s k] [] _
  refine Ev.out ?_
  repeat' (first | ((with_reducible refine Ev.mk ?_); conv => whnf) | (with_reducible refine And.intro ?_ ?_) | (intro h))
  all_goals first | exact Leaf.mk trivial | exact Leaf.mk rfl
def badR (l : List Rg) (i : Nat) : Bool := emptyR (l.getD i rg0) || (decide (0 < i) && (endR (l.getD (i - 1) rg0) || !sless (l.getD (i - 1) rg0).2 (l.getD i rg0).1))
def plainB (l : List Rg) : Bool := (List.range l.length).all fun i => !badR l i
def chkR (l : List Rg) : Int := if plainB l = true then 0 else 12
theorem plainB_no {l : List Rg} {i : Nat} (hi : i < l.length) (h : badR l i = true) : (12 : Int) = chkR l := by
  unfold chkR
  rw [if_neg]
  intro hc
  have := List.all_eq_true.1 hc i (List.mem_range.2 hi)
  rw [h] at this; cases this
theorem plainB_yes {l : List Rg} (h : ∀ i, i < l.length → badR l i = false) : (0 : Int) = chkR l := by
  unfold chkR
  rw [if_pos]
  exact List.all_eq_true.2 fun i hi => by rw [h i (List.mem_range.1 hi)]; rfl
theorem badR_next {l : List Rg} {i : Nat} (ha : ∀ j, j < i → badR l j = false) (h : badR l i = false) : ∀ j, j < i + 1 → badR l j = false := fun j hj => by
  rcases Nat.lt_or_ge j i with h1 | h1
  · exact ha j h1
  · obtain rfl : j = i := by omega
    exact h
def sCheckA : PSpec := ⟨[.d RgsT], [⟨false, [.d (.int .i64)]⟩], fun _ => True, fun x => ((chkR x.1, ()), ())⟩
theorem fCheckA : FnOk Try.prog 30 := ⟨_, Try.func30, by decide, rfl⟩
theorem pCheckA : PSound Try.prog 30 sCheckA := by
  refine psound (T := tab) (S := (spOf [(40, sEmpty.spec (lsOf [])), (41, sEndless.spec (lsOf []))])) (keep := k30) (by kernel_rfl) tabOk (spCons (pOk pEmpty fEmpty (by decide) lsNil) (spCons (pOk pEndless fEndless (by decide) lsNil) spNil)) (by kernel_rfl) Try.func30 (by kernel_rfl) (by decide) fun xs hg hp => ?_
  obtain ⟨l, ⟨⟩⟩ := xs
  obtain ⟨⟨hl, -⟩, -⟩ := hg
  change List Rg at l
  change l.length ≤ _ at hl
  have hl := len63 hl
  clear hp
  show vfun tab _ k30 Try.f30 [.sl RgT l] [] _
  refine Ev.out ?_
  repeat' (first | ((with_reducible refine Ev.mk ?_); conv => whnf) | (with_reducible refine And.intro ?_ ?_) | (intro h))
  all_goals (try simp only [decide_eq_true_eq, decide_eq_false_iff_not, beq_iff_eq, bne_iff_ne, beq_eq_false_iff_ne, bne_eq_false_iff_eq, Int.toNat_natCast, ge_iff_le, gt_iff_lt, Bool.not_eq_true', Bool.not_eq_false', Int.not_lt, Int.not_le, ne_eq] at *)
  all_goals (try dsimp only [Ty.den, Ty.dflt, RgT] at *)
  all_goals (try simp only [eq4, ne4, eq3, ne3, eq2, ne2, Prod.eta, List.length_cons, List.length_nil, List.length_append, Nat.zero_add] at *)
  all_goals (try simp (disch := omega) only [wrap64] at *)
  all_goals try first | exact leafDraw (by kernel_rfl) | exact Leaf.mk trivial | (refine Leaf.mk ?_; omega) | (refine Leaf.mk ?_; unfold maxLen; omega)
  refine LoopVC.on (fun i : Nat => [(7, .i .i64 i)]) (fun _ => []) (fun i => i ≤ l.length ∧ ∀ j, j < i → badR l j = false) (fun i => l.length - i) 0 rfl ⟨by omega, fun j hj => by omega⟩ ?_
  intro i ⟨hi, ha⟩
  repeat' (first | ((with_reducible refine Ev.mk ?_); conv => whnf) | (with_reducible refine And.intro ?_ ?_) | (intro h))
  all_goals (try simp only [decide_eq_true_eq, decide_eq_false_iff_not, beq_iff_eq, bne_iff_ne, beq_eq_false_iff_ne, bne_eq_false_iff_eq, Int.toNat_natCast, ge_iff_le, gt_iff_lt, Bool.not_eq_true', Bool.not_eq_false', Int.not_lt, Int.not_le, ne_eq] at *)
  all_goals (try dsimp only [Ty.den, Ty.dflt, RgT, sEmpty, sEndless] at *)
  all_goals (try simp only [eq4, ne4, eq3, ne3, eq2, ne2, Prod.eta, List.length_cons, List.length_nil, List.length_append, Nat.zero_add] at *)
  all_goals (try simp (disch := omega) only [wrap64] at *)
  all_goals try first | exact leafDraw (by kernel_rfl) | exact Leaf.mk trivial | (refine Leaf.mk ?_; omega) | (refine Leaf.mk ?_; unfold maxLen; omega)
  all_goals
    have hi1 : ((i : Int) - 1).toNat = i - 1 := by omega
    try simp only [hi1] at *
  all_goals first
    | exact Leaf.mk (ret1 (show (0 : Int) = chkR l from plainB_yes fun j hj => ha j (by omega)))
    | (refine Leaf.mk (ret1 (show (12 : Int) = chkR l from plainB_no (i := i) (by omega) ?_)); clear ha; simp_all [badR, endR, emptyR, rg0]; done)
    | (refine Leaf.mk ⟨i + 1, rfl, ⟨by omega, badR_next ha ?_⟩, by omega⟩; clear ha; simp_all [badR, endR, emptyR, rg0]; done)
    | (refine Leaf.mk (ret1 (show (12 : Int) = chkR l from plainB_no (i := i) (by omega) ?_)); clear ha; simp_all [badR, endR, emptyR, rg0])
theorem plainB_iff : ∀ {l : List Rg}, plainB l = true ↔ PlainR l := by
  have key : ∀ l : List Rg, (∀ i, i < l.length → badR l i = false) ↔ PlainR l := by
    intro l
    induction l with
    | nil => exact ⟨fun _ => trivial, fun _ i hi => by simp at hi⟩
    | cons r t ih =>
      rw [PlainR, ← ih]
      constructor
      · intro h
        refine ⟨?_, ?_, ?_⟩
        · have := h 0 (by simp)
          refine emptyR_iff.1 ?_
          unfold badR at this
          rw [Bool.or_eq_false_iff] at this
          exact this.1
        · intro q hq
          cases t with
          | nil => cases hq
          | cons x t =>
            cases hq
            have := h 1 (by simp)
            unfold badR at this
            simp [endR] at this
            exact ⟨this.2.1, sless_iff.1 this.2.2⟩
        · intro i hi
          have := h (i + 1) (by simpa using hi)
          unfold badR at this ⊢
          rw [Bool.or_eq_false_iff] at this ⊢
          refine ⟨this.1, ?_⟩
          cases i with
          | zero => rfl
          | succ i => exact this.2
      · rintro ⟨h1, h2, h3⟩ i hi
        cases i with
        | zero =>
          unfold badR
          rw [Bool.or_eq_false_iff]
          exact ⟨emptyR_iff.2 h1, rfl⟩
        | succ i =>
          have h4 := h3 i (by simpa using hi)
          unfold badR at h4 ⊢
          rw [Bool.or_eq_false_iff] at h4 ⊢
          refine ⟨h4.1, ?_⟩
          cases i with
          | succ i => exact h4.2
          | zero =>
            cases t with
            | nil => simp at hi
            | cons x t =>
              obtain ⟨h5, h6⟩ := h2 x rfl
              simp [endR, h5, sless_iff.2 h6]
  intro l
  rw [← key]
  unfold plainB
  rw [List.all_eq_true]
  exact ⟨fun h i hi => by have := h i (List.mem_range.2 hi); simpa using this, fun h i hi => by rw [h i (List.mem_range.1 hi)]; rfl⟩
theorem chkR_ok {l : List Rg} (h : PlainR l) : chkR l = 0 := if_pos (plainB_iff.2 h)
theorem same_notR {α : Type} [DecidableEq α] (d : α) {xs ys : List α} {i : Nat} (h : ¬ xs.getD i d = ys.getD i d) : ¬ xs = ys := fun hc => h (by rw [hc])
theorem same_stepR {α : Type} (d : α) {xs ys : List α} {i : Nat} (h : i < xs.length) (he : xs.take i = ys.take i) (h2 : i < ys.length) (hd : xs.getD i d = ys.getD i d) : xs.take (i + 1) = ys.take (i + 1) := by
  rw [take_at d h, take_at d h2, he, hd]
theorem same_endR {α : Type} {xs ys : List α} {i : Nat} (h : xs.length ≤ i) (he : xs.take i = ys.take i) (h2 : ys.length ≤ i) : xs = ys := by
  rwa [List.take_of_length_le h, List.take_of_length_le h2] at he
theorem all_atR {α : Type} (d : α) {p : α → Bool} {xs : List α} {i : Nat} (h : i < xs.length) : (xs.take (i + 1)).all p = ((xs.take i).all p && p (xs.getD i d)) := by
  rw [take_at d h, List.all_append]; simp
theorem all_noR {α : Type} (d : α) {p : α → Bool} {xs : List α} {i : Nat} (h : i < xs.length) (hn : p (xs.getD i d) = false) : xs.all p = false := by
  rw [List.all_eq_false]
  refine ⟨xs.getD i d, ?_, by rw [hn]; simp⟩
  rw [List.getD_eq_getElem?_getD, List.getElem?_eq_getElem h]; exact List.getElem_mem _
def sameR (a b : List Rg) : Bool := decide (a = b)
def sEqualR : PSpec := ⟨[.d RgsT, .d RgsT], [⟨false, [.d .bool]⟩], fun _ => True, fun x => ((sameR x.1 x.2.1, ()), ())⟩
theorem fEqualR : FnOk Try.prog 62 := ⟨_, Try.func62, by decide, rfl⟩
theorem pEqualR : PSound Try.prog 62 sEqualR := by
  refine psound (T := tab) (S := (spOf [])) (keep := k62) (by kernel_rfl) tabOk spNil (by kernel_rfl) Try.func62 (by kernel_rfl) (by decide) fun xs hg hp => ?_
  obtain ⟨xs, ys, ⟨⟩⟩ := xs
  obtain ⟨⟨hl, -⟩, ⟨hl2, -⟩, -⟩ := hg
  have hl := len63 hl
  have hl2 := len63 hl2
  change List Rg at xs ys
  change xs.length ≤ _ at hl
  change ys.length ≤ _ at hl2
  clear hp
  show vfun tab _ k62 Try.f62 [.sl RgT xs, .sl RgT ys] [] _
  refine Ev.out ?_
  repeat' (first | ((with_reducible refine Ev.mk ?_); conv => whnf) | (with_reducible refine And.intro ?_ ?_) | (intro h))
  all_goals (try simp only [decide_eq_true_eq, decide_eq_false_iff_not, beq_iff_eq, bne_iff_ne, beq_eq_false_iff_ne, bne_eq_false_iff_eq, Int.toNat_natCast, ge_iff_le, gt_iff_lt, Bool.not_eq_true', Bool.not_eq_false', Int.not_lt, Int.not_le, ne_eq] at *)
  all_goals (try dsimp only [Ty.den, Ty.dflt, RgT] at *)
  all_goals (try simp only [eq4, ne4, eq3, ne3, eq2, ne2, Prod.eta, List.length_cons, List.length_nil, List.length_append, Nat.zero_add] at *)
  all_goals (try simp (disch := omega) only [wrap64] at *)
  all_goals try first | exact leafDraw (by kernel_rfl) | exact Leaf.mk trivial | (refine Leaf.mk ?_; omega) | (refine Leaf.mk ?_; unfold maxLen; omega)
  · refine Leaf.mk (ret1 (show false = sameR xs ys from ?_))
    rw [sameR, eq_comm, decide_eq_false_iff_not]; intro hc; subst hc; omega
  refine LoopVC.on (fun i : Nat => [(13, .i .i64 i)]) (fun _ => []) (fun i => i ≤ xs.length ∧ xs.take i = ys.take i) (fun i => xs.length - i) 0 rfl ⟨by omega, by simp⟩ ?_
  intro i ⟨hi, he⟩
  repeat' (first | ((with_reducible refine Ev.mk ?_); conv => whnf) | (with_reducible refine And.intro ?_ ?_) | (intro h))
  all_goals (try simp only [decide_eq_true_eq, decide_eq_false_iff_not, beq_iff_eq, bne_iff_ne, beq_eq_false_iff_ne, bne_eq_false_iff_eq, Int.toNat_natCast, ge_iff_le, gt_iff_lt, Bool.not_eq_true', Bool.not_eq_false', Int.not_lt, Int.not_le, ne_eq] at *)
  all_goals (try dsimp only [Ty.den, Ty.dflt, RgT] at *)
  all_goals (try simp only [eq4, ne4, eq3, ne3, eq2, ne2, Prod.eta, List.length_cons, List.length_nil, List.length_append, Nat.zero_add] at *)
  all_goals (try simp (disch := omega) only [wrap64] at *)
  all_goals try first | exact leafDraw (by kernel_rfl) | exact Leaf.mk trivial | (refine Leaf.mk ?_; omega) | (refine Leaf.mk ?_; unfold maxLen; omega)
  all_goals first
    | exact Leaf.mk (ret1 (show false = decide (xs = ys) by rw [eq_comm, decide_eq_false_iff_not]; exact same_notR rg0 h))
    | exact Leaf.mk ⟨i + 1, rfl, ⟨by omega, same_stepR rg0 (by omega) he (by omega) h⟩, by omega⟩
    | exact Leaf.mk (ret1 (show true = decide (xs = ys) by rw [eq_comm, decide_eq_true_eq]; exact same_endR (by omega) he (by omega)))
def sSameA : PSpec := sEqualR
theorem fSameA : FnOk Try.prog 34 := ⟨_, Try.func34, by decide, rfl⟩
theorem pSameA : PSound Try.prog 34 sSameA := by
  refine psound (T := tab) (S := (spOf [(62, sEqualR.spec (lsOf []))])) (keep := k34) (by kernel_rfl) tabOk (spCons (pOk pEqualR fEqualR (by decide) lsNil) spNil) (by kernel_rfl) Try.func34 (by kernel_rfl) (by decide) fun xs hg hp => ?_
  obtain ⟨a, b, ⟨⟩⟩ := xs
  change List Rg at a b
  show vfun tab _ k34 Try.f34 [.sl RgT a, .sl RgT b] [] _
  refine Ev.out ?_
  repeat' (first | ((with_reducible refine Ev.mk ?_); conv => whnf) | (with_reducible refine And.intro ?_ ?_) | (intro h))
  all_goals first | exact Leaf.mk trivial | exact Leaf.mk rfl
def sOwn32 : PSpec := ⟨[.d RgsT], [⟨false, [.d RgsT]⟩], fun x => List.length x.1 ≤ 100000, fun x => ((x.1, ()), ())⟩
theorem fOwn32 : FnOk Try.prog 10 := ⟨_, Try.func10, by decide, rfl⟩
theorem pOwn32 : PSound Try.prog 10 sOwn32 := by
  refine psound (T := tab) (S := (spOf [])) (keep := k10) (by kernel_rfl) tabOk spNil (by kernel_rfl) Try.func10 (by kernel_rfl) (by decide) fun xs hg hp => ?_
  obtain ⟨xs, ⟨⟩⟩ := xs
  change List Rg at xs
  change xs.length ≤ 100000 at hp
  clear hg
  show vfun tab _ k10 Try.f10 [.sl RgT xs] [] _
  refine Ev.out ?_
  repeat' (first | ((with_reducible refine Ev.mk ?_); conv => whnf) | (with_reducible refine And.intro ?_ ?_) | (intro h))
  all_goals (try simp only [decide_eq_true_eq, decide_eq_false_iff_not, beq_iff_eq, bne_iff_ne, beq_eq_false_iff_ne, bne_eq_false_iff_eq, Int.toNat_natCast, ge_iff_le, gt_iff_lt, Bool.not_eq_true', Bool.not_eq_false', Int.not_lt, Int.not_le, ne_eq] at *)
  all_goals (try dsimp only [Ty.den, Ty.dflt, RgT] at *)
  all_goals (try simp only [eq4, ne4, eq3, ne3, eq2, ne2, Prod.eta, List.length_cons, List.length_nil, List.length_append, Nat.zero_add] at *)
  all_goals (try simp (disch := omega) only [wrap64] at *)
  all_goals try first | exact leafDraw (by kernel_rfl) | exact Leaf.mk trivial | (refine Leaf.mk ?_; omega) | (refine Leaf.mk ?_; unfold maxLen; omega)
  refine LoopVC.weak [(.slot 3, .nil 29 RgT)] (fun i : Nat => [(4, .i .i64 i)]) (fun i => [(0, .arr 29 RgT (xs.take i))]) (fun i => i ≤ xs.length) (fun i => xs.length - i) 0 (Ev.mk ?_)
  (conv => whnf)
  refine ⟨Leaf.mk rfl, Leaf.mk ?_, ?_⟩
  · omega
  intro i hi
  have htl : (xs.take i).length ≤ i := by rw [List.length_take]; omega
  repeat' (first | ((with_reducible refine Ev.mk ?_); conv => whnf) | (with_reducible refine And.intro ?_ ?_) | (intro h))
  all_goals (try simp only [decide_eq_true_eq, decide_eq_false_iff_not, beq_iff_eq, bne_iff_ne, beq_eq_false_iff_ne, bne_eq_false_iff_eq, Int.toNat_natCast, ge_iff_le, gt_iff_lt, Bool.not_eq_true', Bool.not_eq_false', Int.not_lt, Int.not_le, ne_eq] at *)
  all_goals (try dsimp only [Ty.den, Ty.dflt, RgT] at *)
  all_goals (try simp only [eq4, ne4, eq3, ne3, eq2, ne2, Prod.eta, List.length_cons, List.length_nil, List.length_append, Nat.zero_add] at *)
  all_goals (try simp (disch := omega) only [wrap64] at *)
  all_goals try first | exact leafDraw (by kernel_rfl) | exact Leaf.mk trivial | (refine Leaf.mk ?_; omega) | (refine Leaf.mk ?_; unfold maxLen; omega)
  all_goals first
    | (refine Leaf.mk ?_; omega)
    | (refine Leaf.mk ?_; unfold maxLen; omega)
    | (refine Leaf.mk ⟨i + 1, ?_, by omega, by omega⟩
       rw [take_at rg0 (by omega)]; rfl)
    | (refine Leaf.mk (ret1 (show xs.take i = xs from ?_))
       exact take_all (by omega))
def lightR1 (m : Rg) : Bool := decide (m.1.length + m.2.length ≤ 200)
def lightR (l : List Rg) (n : Int) : Bool := decide ((l.length : Int) ≤ n) && l.all lightR1
def SzR (r : Rg) : Prop := r.1.length ≤ 140737488355328 ∧ r.2.length ≤ 140737488355328
def sLightR32 : PSpec := ⟨[.d RgsT, .d (.int .i64)], [⟨false, [.d .bool]⟩], fun x => ∀ r ∈ (x.1 : List Rg), SzR r, fun x => ((lightR x.1 x.2.1, ()), ())⟩
theorem fLightR32 : FnOk Try.prog 8 := ⟨_, Try.func8, by decide, rfl⟩
theorem pLightR32 : PSound Try.prog 8 sLightR32 := by
  refine psound (T := tab) (S := (spOf [])) (keep := k8) (by kernel_rfl) tabOk spNil (by kernel_rfl) Try.func8 (by kernel_rfl) (by decide) fun xs hg hp => ?_
  obtain ⟨xs, n, ⟨⟩⟩ := xs
  obtain ⟨⟨hl, hx⟩, -, -⟩ := hg
  change List Rg at xs
  change Int at n
  change xs.length ≤ _ at hl
  change ∀ x ∈ xs, Eng.Good RgT x at hx
  have hl := len63 hl
  have hx2 : ∀ i, i < xs.length → (xs.getD i ([], [])).1.length ≤ 140737488355328 ∧ (xs.getD i ([], [])).2.length ≤ 140737488355328 := fun i hi => hp _ (getD_mem rg0 hi)
  clear hx
  clear hp
  show vfun tab _ k8 Try.f8 [.sl RgT xs, .i .i64 n] [] _
  refine Ev.out ?_
  repeat' (first | ((with_reducible refine Ev.mk ?_); conv => whnf) | (with_reducible refine And.intro ?_ ?_) | (intro h))
  all_goals (try simp only [decide_eq_true_eq, decide_eq_false_iff_not, beq_iff_eq, bne_iff_ne, beq_eq_false_iff_ne, bne_eq_false_iff_eq, Int.toNat_natCast, ge_iff_le, gt_iff_lt, Bool.not_eq_true', Bool.not_eq_false', Int.not_lt, Int.not_le, ne_eq] at *)
  all_goals (try dsimp only [Ty.den, Ty.dflt, RgT] at *)
  all_goals (try simp only [eq4, ne4, eq3, ne3, eq2, ne2, Prod.eta, List.length_cons, List.length_nil, List.length_append, Nat.zero_add] at *)
  all_goals (try simp (disch := omega) only [wrap64] at *)
  all_goals try first | exact leafDraw (by kernel_rfl) | exact Leaf.mk trivial | (refine Leaf.mk ?_; omega) | (refine Leaf.mk ?_; unfold maxLen; omega)
  · refine Leaf.mk (ret1 (show false = lightR xs n from ?_))
    rw [lightR, decide_eq_false (by omega), Bool.false_and]
  refine LoopVC.on (fun i : Nat => [(5, .i .i64 i)]) (fun _ => []) (fun i => i ≤ xs.length ∧ (xs.take i).all lightR1 = true) (fun i => xs.length - i) 0 rfl ⟨by omega, rfl⟩ ?_
  intro i ⟨hi, he⟩
  have hx3 := hx2 i
  repeat' (first | ((with_reducible refine Ev.mk ?_); conv => whnf) | (with_reducible refine And.intro ?_ ?_) | (intro h))
  all_goals (try simp only [decide_eq_true_eq, decide_eq_false_iff_not, beq_iff_eq, bne_iff_ne, beq_eq_false_iff_ne, bne_eq_false_iff_eq, Int.toNat_natCast, ge_iff_le, gt_iff_lt, Bool.not_eq_true', Bool.not_eq_false', Int.not_lt, Int.not_le, ne_eq] at *)
  all_goals (try dsimp only [Ty.den, Ty.dflt, RgT] at *)
  all_goals (try simp only [eq4, ne4, eq3, ne3, eq2, ne2, Prod.eta, List.length_cons, List.length_nil, List.length_append, Nat.zero_add] at *)
  all_goals (try simp (disch := omega) only [wrap64] at *)
  all_goals try first | exact leafDraw (by kernel_rfl) | exact Leaf.mk trivial | (refine Leaf.mk ?_; omega) | (refine Leaf.mk ?_; unfold maxLen; omega)
  all_goals try (
    have hx4 := hx3 (by omega)
    simp (disch := omega) only [wrap64] at *)
  all_goals first
    | (refine Leaf.mk (ret1 (show false = lightR xs n from ?_))
       rw [lightR, all_noR rg0 (by omega) (show lightR1 (xs.getD i rg0) = false from decide_eq_false (by dsimp only [rg0] at *; omega)), Bool.and_false]
       done)
    | (refine Leaf.mk ⟨i + 1, rfl, ⟨by omega, ?_⟩, by omega⟩
       rw [all_atR rg0 (by omega), he, Bool.true_and]; exact decide_eq_true (by dsimp only [rg0] at *; omega))
    | (refine Leaf.mk (ret1 (show true = lightR xs n from ?_))
       rw [List.take_of_length_le (by omega)] at he
       rw [lightR, he, Bool.and_true, decide_eq_true (by omega)]
       done)
theorem lightR_of {l : List Rg} {n : Int} (h : lightR l n = true) : (l.length : Int) ≤ n ∧ ∀ r ∈ l, r.1.length + r.2.length ≤ 200 := by
  rw [lightR, Bool.and_eq_true] at h
  exact ⟨of_decide_eq_true h.1, fun x hx => of_decide_eq_true (List.all_eq_true.1 h.2 x hx)⟩
end Go.Proofs.Ytbobjiaggngbmaa

namespace Go.Proofs.Ytbobjiaggngbmaa
open Go.Proofs Go.Shelf
def laySortF_ren : Go.Shelf.Ren := ⟨fun | 6 => 64 | 15 => 82 | 14 => 81 | 28 => 95 | 29 => 96 | 20 => 87 | 21 => 88 | 22 => 89 | 23 => 90 | 24 => 91 | 25 => 92 | 26 => 93 | 27 => 94 | 46 => 98 | 47 => 99 | 48 => 100 | 49 => 101 | 50 => 102 | 57 => 103 | n => n, fun | 22 => 27 | 24 => 29 | 25 => 67 | 3 => 3 | 39 => 114 | 0 => 0 | 53 => 126 | 55 => 70 | 4 => 4 | 46 => 119 | 45 => 118 | 50 => 123 | 5 => 5 | 9 => 9 | 66 => 127 | 70 => 131 | 76 => 133 | 77 => 134 | n => n, fun | n => n⟩
theorem laySortF : Go.Proofs.SlLaysF0.n6 Try.prog laySortF_ren := {
  mixed := by kernel_rfl
  f6 := ⟨Try.f64.name, by decide, Try.func64.trans (congrArg some (by kernel_rfl))⟩
  f14 := ⟨Try.f81.name, by decide, Try.func81.trans (congrArg some (by kernel_rfl))⟩
  f15 := Try.func82.trans (congrArg some (by kernel_rfl))
  f20 := ⟨Try.f87.name, by decide, Try.func87.trans (congrArg some (by kernel_rfl))⟩
  f21 := ⟨Try.f88.name, by decide, Try.func88.trans (congrArg some (by kernel_rfl))⟩
  f22 := ⟨Try.f89.name, by decide, Try.func89.trans (congrArg some (by kernel_rfl))⟩
  f23 := ⟨Try.f90.name, by decide, Try.func90.trans (congrArg some (by kernel_rfl))⟩
  f24 := ⟨Try.f91.name, by decide, Try.func91.trans (congrArg some (by kernel_rfl))⟩
  f25 := ⟨Try.f92.name, by decide, Try.func92.trans (congrArg some (by kernel_rfl))⟩
  f26 := ⟨Try.f93.name, by decide, Try.func93.trans (congrArg some (by kernel_rfl))⟩
  f27 := ⟨Try.f94.name, by decide, Try.func94.trans (congrArg some (by kernel_rfl))⟩
  f28 := Try.func95.trans (congrArg some (by kernel_rfl))
  f29 := Try.func96.trans (congrArg some (by kernel_rfl))
  f46 := ⟨Try.f98.name, by decide, Try.func98.trans (congrArg some (by kernel_rfl))⟩
  f47 := Try.func99.trans (congrArg some (by kernel_rfl))
  f48 := Try.func100.trans (congrArg some (by kernel_rfl))
  f49 := ⟨Try.f101.name, by decide, Try.func101.trans (congrArg some (by kernel_rfl))⟩
  f50 := ⟨Try.f102.name, by decide, Try.func102.trans (congrArg some (by kernel_rfl))⟩
  f57 := ⟨Try.f103.name, by decide, Try.func103.trans (congrArg some (by kernel_rfl))⟩
  t0 := Try.underlying0
  a0 := Try.isAgg0
  z0 := Try.sizeOf0
  v0 := Try.zeroValue0
  t3 := Try.underlying3
  a3 := Try.isAgg3
  z3 := Try.sizeOf3
  v3 := Try.zeroValue3
  t4 := Try.underlying4
  a4 := Try.isAgg4
  z4 := Try.sizeOf4
  v4 := Try.zeroValue4
  t5 := Try.underlying5
  a5 := Try.isAgg5
  z5 := Try.sizeOf5
  v5 := Try.zeroValue5
  t9 := Try.underlying9
  a9 := Try.isAgg9
  z9 := Try.sizeOf9
  v9 := Try.zeroValue9
  t22 := Try.underlying27
  a22 := Try.isAgg27
  z22 := Try.sizeOf27
  v22 := Try.zeroValue27
  t25 := Try.underlying67
  a25 := Try.isAgg67
  z25 := Try.sizeOf67
  v25 := Try.zeroValue67
  t39 := Try.underlying114
  a39 := Try.isAgg114
  z39 := Try.sizeOf114
  v39 := Try.zeroValue114
  t45 := Try.underlying118
  a45 := Try.isAgg118
  z45 := Try.sizeOf118
  v45 := Try.zeroValue118
  t46 := Try.underlying119
  a46 := Try.isAgg119
  z46 := Try.sizeOf119
  v46 := Try.zeroValue119
  t50 := Try.underlying123
  a50 := Try.isAgg123
  z50 := Try.sizeOf123
  v50 := Try.zeroValue123
  t53 := Try.underlying126
  a53 := Try.isAgg126
  z53 := Try.sizeOf126
  v53 := Try.zeroValue126
  t55 := Try.underlying70
  a55 := Try.isAgg70
  z55 := Try.sizeOf70
  v55 := Try.zeroValue70
  t66 := Try.underlying127
  a66 := Try.isAgg127
  z66 := Try.sizeOf127
  v66 := Try.zeroValue127
  t70 := Try.underlying131
  a70 := Try.isAgg131
  z70 := Try.sizeOf131
  v70 := Try.zeroValue131
  t76 := Try.underlying133
  a76 := Try.isAgg133
  z76 := Try.sizeOf133
  v76 := Try.zeroValue133
  t77 := Try.underlying134
  a77 := Try.isAgg134
  z77 := Try.sizeOf134
  v77 := Try.zeroValue134 }
end Go.Proofs.Ytbobjiaggngbmaa

set_option linter.unusedVariables false
set_option linter.unusedSimpArgs false
set_option maxRecDepth 8000
set_option maxHeartbeats 4000000
namespace Go.Proofs.Ytbobjiaggngbmaa
open Go.Eng
theorem cmpB_lt : ∀ (a b : List UInt8), Lib.compareBytes a b < 0 ↔ a < b
  | [], [] => by simp [Lib.compareBytes]
  | [], _ :: _ => by simp [Lib.compareBytes]
  | _ :: _, [] => by simp [Lib.compareBytes]
  | a :: r, b :: s => by
    have ih := cmpB_lt r s
    rw [Lib.compareBytes, List.cons_lt_cons_iff, ← ih]
    by_cases h1 : a < b
    · simp [h1]
    · by_cases h2 : b < a
      · have h3 : ¬ a = b := fun hc => by rw [hc] at h2; exact absurd h2 (by simp [UInt8.lt_iff_toNat_lt])
        simp [h1, h2, h3]
      · have h3 : a = b := by rw [UInt8.lt_iff_toNat_lt] at h1 h2; rw [← UInt8.toNat_inj]; omega
        subst h3
        simp [h1]
theorem ltR_iff (x y : Rg) : ltOf cmpR x y = true ↔ x.1 < y.1 := by
  unfold ltOf cmpR
  rw [decide_eq_true_iff, cmpB_lt]
theorem ltR_not (x y : Rg) : ltOf cmpR x y = false ↔ ¬ x.1 < y.1 := by
  rw [← ltR_iff, Bool.not_eq_true]
theorem swoR : Go.Sort.SWO (ltOf cmpR) where
  irrefl x := by rw [ltR_not]; exact slt_irrefl _
  trans x y z h1 h2 := by rw [ltR_iff] at *; exact slt_trans h1 h2
  ntrans x y z h1 h2 := by rw [ltR_not] at *; exact sle_trans h2 h1
instance : Inhabited Rg := ⟨rg0⟩
instance : Inhabited (Ty.den RgT) := ⟨rg0⟩
def srtR (l : List Rg) : List Rg := srtF cmpR l
theorem srtR_perm (l : List Rg) : (srtR l).Perm l := (srtF_ok swoR l).1
theorem srtR_len (l : List Rg) : (srtR l).length = l.length := (srtR_perm l).length_eq
theorem srtR_sorted (l : List Rg) : (srtR l).Pairwise fun x y => ¬ y.1 < x.1 := (srtF_ok swoR l).2.imp fun {x y} h => (ltR_not y x).1 h
noncomputable def iSortFR : Eng.Spec := sortFSpec 38 RgT srtR
theorem fSortFR : FnOk Try.prog 64 := ⟨_, Try.func64, by decide, rfl⟩
theorem pSortFR : SpecOk Try.prog 64 iSortFR :=
  sortFSpec_ok (e := RgT) (enc := encR) (fun w F x cs h => by
      obtain ⟨c1, r1, rfl, ⟨rfl, -⟩, ⟨rfl, -⟩⟩ := h
      rfl) (fun x => rfl) srtR_perm
    (fun p cap w => AnyF.slices_SortFunc_none { laySortF with } p cap _ w)
    (fun blk off cap xs w hH hb hl => by
      have h := AnyQ.slices_SortFunc_eq laySortF 2 Try.isAgg29 Try.sizeOf29 encR (fun _ => rfl) (fun x v hv => by
        simp only [encR, List.mem_cons, List.not_mem_nil, or_false] at hv
        rcases hv with rfl | rfl <;> rfl) cmpR swoR 38 #[] blk off cap xs.toArray w (enters_of Try.func38 (by kernel_rfl) rfl)
        (fun m os dk hs x y => plain1_w x y _) hH hb hl
      refine h.mono ?_
      rintro e' w' ⟨rfl, n, os, rfl⟩
      refine ⟨rfl, n, os, ?_⟩
      rfl)
def sCollectR : PSpec := ⟨[.fb 65 (.slice RgT)], [⟨false, [.o 29 RgT]⟩], fun x => List.length x.1 ≤ 100000, fun x => ((x.1, ()), ())⟩
theorem fCollectR : FnOk Try.prog 63 := ⟨_, Try.func63, by decide, rfl⟩
theorem pCollectR : PSound Try.prog 63 sCollectR := by
  refine psound (T := tab) (S := (spOf [(80, sAppSeq.spec (lsOf []))])) (keep := k63) (by kernel_rfl) tabOk (spCons (pOk pAppSeq fAppSeq (by decide) lsNil) spNil) (by kernel_rfl) Try.func63 (by kernel_rfl) (by decide) fun xs hg hp => ?_
  obtain ⟨l, ⟨⟩⟩ := xs
  change List Rg at l
  clear hg
  change l.length ≤ 100000 at hp
  show vfun tab _ k63 Try.f63 [.fn 65 [.rp [.sl RgT l]]] [] _
  refine Ev.out ?_
  repeat' (first | ((with_reducible refine Ev.mk ?_); conv => whnf) | (with_reducible refine And.intro ?_ ?_) | (intro h))
  all_goals first | exact Leaf.mk hp | exact Leaf.mk rfl
def sSortedFR : PSpec := ⟨[.fb 65 (.slice RgT), .f0 38], [⟨false, [.o 29 RgT]⟩], fun x => List.length x.1 ≤ 100000, fun x => ((srtR x.1, ()), ())⟩
theorem fSortedFR : FnOk Try.prog 36 := ⟨_, Try.func36, by decide, rfl⟩
theorem pSortedFR : PSound Try.prog 36 sSortedFR := by
  refine psound (T := tab) (S := (spOf [(63, sCollectR.spec (lsOf [])), (64, iSortFR)])) (keep := k36) (by kernel_rfl) tabOk (spCons (pOk pCollectR fCollectR (by decide) lsNil) (spCons (.inl ⟨pSortFR, fSortFR⟩) spNil)) (by kernel_rfl) Try.func36 (by kernel_rfl) (by decide) fun xs hg hp => ?_
  obtain ⟨l, ⟨⟩, ⟨⟩⟩ := xs
  change List Rg at l
  clear hg
  change l.length ≤ 100000 at hp
  show vfun tab _ k36 Try.f36 [.fn 65 [.rp [.sl RgT l]], .fn 38 []] [] _
  refine Ev.out ?_
  repeat' (first | ((with_reducible refine Ev.mk ?_); conv => whnf) | (with_reducible refine And.intro ?_ ?_) | (intro h))
  all_goals first
    | exact Leaf.mk hp
    | exact Leaf.mk (show l.length < 4611686018427387904 by omega)
    | exact Leaf.mk (ret1 rfl)
theorem fValuesR : FnOk Try.prog 37 := ⟨_, Try.func37, by decide, rfl⟩
noncomputable def iValuesR : Eng.Spec := inl tab (spOf []) k37 Try.f37
theorem pValuesR : SpecOk Try.prog 37 iValuesR := inl_ok tabOk spNil (by kernel_rfl) Try.func37 (by kernel_rfl)
end Go.Proofs.Ytbobjiaggngbmaa

set_option linter.unusedVariables false
set_option linter.unusedSimpArgs false
set_option maxRecDepth 8000
set_option maxHeartbeats 4000000
namespace Go.Proofs.Ytbobjiaggngbmaa
open Go.Eng
theorem last_at {O : List Rg} (h : 0 < O.length) : O.getLast? = some (O.getD (O.length - 1) rg0) := by
  rw [List.getLast?_eq_getElem?, List.getD_eq_getElem?_getD, List.getElem?_eq_getElem (by omega)]; rfl
theorem set_last {O : List Rg} (h : 0 < O.length) (q : Rg) : O.set (O.length - 1) q = O.dropLast ++ [q] := by
  have hne : O ≠ [] := by rintro rfl; simp at h
  obtain ⟨o, x, rfl⟩ : ∃ o x, O = o ++ [x] := ⟨_, _, (List.dropLast_concat_getLast hne).symm⟩
  rw [List.dropLast_concat, List.length_append, List.length_singleton, Nat.add_sub_cancel, List.set_append_right _ _ (Nat.le_refl _), Nat.sub_self]
  rfl
theorem set_self {O : List Rg} (h : 0 < O.length) : O.dropLast ++ [O.getD (O.length - 1) rg0] = O := by
  have hne : O ≠ [] := by rintro rfl; simp at h
  have h1 : O.getD (O.length - 1) rg0 = O.getLast hne := by
    have := last_at h
    rw [List.getLast?_eq_some_getLast hne, Option.some.injEq] at this
    exact this.symm
  rw [h1, List.dropLast_concat_getLast]
theorem stepP_empty {O : List Rg} {r : Rg} (h : emptyR r = true) : stepP O r = O := by unfold stepP; rw [if_pos h]
theorem stepP_first {O : List Rg} {r : Rg} (h : emptyR r = false) (h0 : O.length = 0) : stepP O r = O ++ [r] := by
  obtain rfl := List.eq_nil_of_length_eq_zero h0
  unfold stepP
  rw [if_neg (by rw [h]; simp)]
  rfl
theorem stepP_some {O : List Rg} {r : Rg} (h : emptyR r = false) (h0 : 0 < O.length) : stepP O r = if ¬ (O.getD (O.length - 1) rg0).2 = [] ∧ (O.getD (O.length - 1) rg0).2 < r.1 then O ++ [r] else O.dropLast ++ [joinR (O.getD (O.length - 1) rg0) r] := by
  unfold stepP
  rw [if_neg (by rw [h]; simp), last_at h0]
theorem endR_no {r : Rg} (h : endR r = false) : ¬ r.2 = [] := by unfold endR at h; simpa using h
theorem endR_yes {r : Rg} (h : endR r = true) : r.2 = [] := by unfold endR at h; simpa using h
theorem stepP_new {O : List Rg} {r : Rg} (h : emptyR r = false) (h0 : 0 < O.length) (he : endR (O.getD (O.length - 1) rg0) = false) (hs : sless (O.getD (O.length - 1) rg0).2 r.1 = true) : stepP O r = O ++ [r] := by
  rw [stepP_some h h0, if_pos ⟨endR_no he, sless_iff.1 hs⟩]
theorem stepP_keep {O : List Rg} {r : Rg} (h : emptyR r = false) (h0 : 0 < O.length) (he : endR (O.getD (O.length - 1) rg0) = true) : stepP O r = O := by
  rw [stepP_some h h0, if_neg (fun hc => hc.1 (endR_yes he)), joinR, if_pos (endR_yes he), set_self h0]
theorem stepP_end {O : List Rg} {r : Rg} (h : emptyR r = false) (h0 : 0 < O.length) (he : endR (O.getD (O.length - 1) rg0) = false) (hs : sless (O.getD (O.length - 1) rg0).2 r.1 = false) (hr : endR r = true) : stepP O r = O.set (O.length - 1) ((O.getD (O.length - 1) rg0).1, []) := by
  rw [stepP_some h h0, if_neg (fun hc => by rw [sless_iff.2 hc.2] at hs; cases hs), joinR, if_neg (endR_no he), if_pos (endR_yes hr), set_last h0]
theorem stepP_max {O : List Rg} {r : Rg} (h : emptyR r = false) (h0 : 0 < O.length) (he : endR (O.getD (O.length - 1) rg0) = false) (hs : sless (O.getD (O.length - 1) rg0).2 r.1 = false) (hr : endR r = false) {inst : Decidable (sless (O.getD (O.length - 1) rg0).2 r.2 = false)} :
    stepP O r = O.set (O.length - 1) ((O.getD (O.length - 1) rg0).1, @ite _ (sless (O.getD (O.length - 1) rg0).2 r.2 = false) inst (O.getD (O.length - 1) rg0).2 r.2) := by
  rw [stepP_some h h0, if_neg (fun hc => by rw [sless_iff.2 hc.2] at hs; cases hs), joinR, if_neg (endR_no he), if_neg (endR_no hr), set_last h0, maxS]
  by_cases hq : sless (O.getD (O.length - 1) rg0).2 r.2 = true
  · rw [if_pos hq, if_neg (by rw [hq]; simp)]
  · rw [if_neg hq, if_pos (by simpa using hq)]
theorem stepP_len (O : List Rg) (r : Rg) : (stepP O r).length ≤ O.length + 1 := by
  unfold stepP
  split
  · omega
  · split
    · simp
    · split <;> simp <;> omega
theorem foldP_len : ∀ (s O : List Rg), (s.foldl stepP O).length ≤ O.length + s.length
  | [], O => by simp
  | r :: s, O => by
    have h1 := foldP_len s (stepP O r)
    have h2 := stepP_len O r
    rw [List.foldl_cons, List.length_cons]; omega
theorem foldP_ok : ∀ (s done O : List Rg), PlOk O done s → (s.Pairwise fun x y => ¬ y.1 < x.1) → PlOk (s.foldl stepP O) (done ++ s) []
  | [], done, O, h, _ => by rw [List.append_nil]; exact h
  | r :: s, done, O, h, hs => by
    have h1 := foldP_ok s (done ++ [r]) (stepP O r) (stepP_ok h (List.pairwise_cons.1 hs).1) (List.pairwise_cons.1 hs).2
    rw [List.append_assoc] at h1
    exact h1
def sPlainA : PSpec := ⟨[.d RgsT], [⟨false, [.o 29 RgT]⟩], fun x => List.length x.1 ≤ 100000, fun x => ((madeR x.1 [] 0, ()), ())⟩
theorem fPlainA : FnOk Try.prog 12 := ⟨_, Try.func12, by decide, rfl⟩
theorem pPlainA : PSound Try.prog 12 sPlainA := by
  refine psoundJ (T := tab) (S := (spOf [(37, iValuesR), (36, sSortedFR.spec (lsOf [])), (40, sEmpty.spec (lsOf [])), (41, sEndless.spec (lsOf []))])) (keep := k12) 3 0 [3, 4, 5] (by kernel_rfl) tabOk (spCons (.inl ⟨pValuesR, fValuesR⟩) (spCons (pOk pSortedFR fSortedFR (by decide) lsNil) (spCons (pOk pEmpty fEmpty (by decide) lsNil) (spCons (pOk pEndless fEndless (by decide) lsNil) spNil)))) (by kernel_rfl) Try.func12 rfl rfl rfl (by kernel_rfl) (by kernel_rfl) (by kernel_rfl) (by decide) fun xs hg hp => ?_
  obtain ⟨l, ⟨⟩⟩ := xs
  change List Rg at l
  clear hg
  change l.length ≤ 100000 at hp
  change vc _ _ _ _ ⟨[(0, .sl RgT l)], []⟩ _
  refine Ev.out ?_
  repeat' (first | ((with_reducible refine Ev.mk ?_); conv => whnf) | (with_reducible refine And.intro ?_ ?_) | (intro h))
  · exact Leaf.mk hp
  have hSl := srtR_len l
  have hSp := srtR_perm l
  have hSs := srtR_sorted l
  show LoopVC _ _ ⟨_, [(0, .arr 29 RgT (srtR l))]⟩ _
  generalize srtR l = s at *
  refine LoopVC.weak [(.slot 4, .nil 29 RgT)] (fun i : Nat => [(5, .i .i64 i)]) (fun i => [(1, .arr 29 RgT ((s.take i).foldl stepP []))]) (fun i => i ≤ s.length) (fun i => s.length - i) 0 (Ev.mk ?_)
  (conv => whnf)
  refine ⟨Leaf.mk rfl, Leaf.mk ?_, ?_⟩
  · omega
  intro i hi
  have hat : ∀ h : i < s.length, (s.take (i + 1)).foldl stepP [] = stepP ((s.take i).foldl stepP []) (s.getD i rg0) := fun h => foldl_at rg0 h
  have hOl := foldP_len (s.take i) []
  have htl : (s.take i).length ≤ i := List.length_take_le _ _
  have hfin : s.length ≤ i → (s.take i).foldl stepP [] = madeR l [] 0 := fun h => by
    rw [take_all h]
    exact plain_made hSp (foldP_ok s [] [] (plOk_init s) hSs)
  generalize hO : (s.take i).foldl stepP [] = O at *
  rw [List.length_nil] at hOl
  have hw : IntKind.i64.wrap ((O.length : Int) - 1) = (O.length : Int) - 1 := by simp (disch := omega) only [wrap64]
  have hn : ((O.length : Int) - 1).toNat = O.length - 1 := by omega
  repeat' (first | ((with_reducible refine Ev.mk ?_); conv => whnf) | (with_reducible refine And.intro ?_ ?_) | (intro h))
  all_goals (try simp only [decide_eq_true_eq, decide_eq_false_iff_not, beq_iff_eq, bne_iff_ne, beq_eq_false_iff_ne, bne_eq_false_iff_eq, Int.toNat_natCast, ge_iff_le, gt_iff_lt, Bool.not_eq_true', Bool.not_eq_false', Int.not_lt, Int.not_le, ne_eq] at *)
  all_goals (try dsimp only [Ty.den, Ty.dflt, RgT, sEmpty, sEndless] at *)
  all_goals (try simp only [eq4, ne4, eq3, ne3, eq2, ne2, Prod.eta, List.length_cons, List.length_nil, List.length_append, Nat.zero_add] at *)
  all_goals (try simp (disch := omega) only [wrap64] at *)
  all_goals try first | exact leafDraw (by kernel_rfl) | exact Leaf.mk trivial | (refine Leaf.mk ?_; omega) | (refine Leaf.mk ?_; unfold maxLen; omega)
  all_goals try simp only [hw, hn] at *
  all_goals first
    | (refine Leaf.mk ?_; omega)
    | (refine Leaf.mk ?_; unfold maxLen; omega)
    | exact Leaf.mk (ret1 (show O = madeR l [] 0 from hfin (by omega)))
    | (exfalso; simp_all; done)
    | (refine Leaf.mk ⟨i + 1, ?_, by omega, by omega⟩
       first
       | (rw [hat (by omega), stepP_empty (by assumption)]; rfl)
       | (rw [hat (by omega), stepP_first (by assumption) (by omega)]; rfl)
       | (rw [hat (by omega), stepP_keep (by assumption) (by omega) (by assumption)]; rfl)
       | (rw [hat (by omega), stepP_new (by assumption) (by omega) (by assumption) (by assumption)]; rfl)
       | (rw [hat (by omega), stepP_end (by assumption) (by omega) (by assumption) (by assumption) (by assumption)]; rfl)
       | (rw [hat (by omega), stepP_max (by assumption) (by omega) (by assumption) (by assumption) (by assumption)]; rfl))
    | skip
end Go.Proofs.Ytbobjiaggngbmaa
