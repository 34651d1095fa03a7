import Derived.Test.YtcgfolhnoggjfaaJ10



set_option linter.unusedVariables false
set_option linter.unusedSimpArgs false
set_option maxRecDepth 8000
set_option maxHeartbeats 4000000
namespace Go.Proofs.Ytcgfolhnoggjfaa
open Go.Eng
theorem place_lo {a t : Str} (h : (a : List UInt8) < t) : placeF [t] a = 0 := by
  have : leS a t = false := by rw [leS, sle_not, sless_iff.2 h]; rfl
  rw [placeF, List.countP_cons, this]; rfl
theorem place_hi {b t : Str} (h : ¬ (b : List UInt8) < t) : placeF [t] b = 1 := by
  have : leS b t = true := by
    rw [leS, sle_not]
    cases e : sless b t with
    | false => rfl
    | true => exact absurd (sless_iff.1 e) h
  rw [placeF, List.countP_cons, this]; rfl
theorem sort_two {a t : Str} (h : (a : List UInt8) < t) : (sortF [a, t]).length = 2 := by
  show (addK (addK [] a) t).length = 2
  rw [show addK [] a = [a] from rfl, addK_cons, if_pos (sless_iff.2 h)]; rfl
theorem le_no {x b : Str} {P : Prop} (h : (sless x b || x == b) = false) (k : ¬ (b : List UInt8) < x) : P := by
  rw [sle_not] at h
  exact absurd (sless_iff.1 (by simpa using h)) k
theorem le_yes {x b : Str} (h : (sless x b || x == b) = true) : ¬ (b : List UInt8) < x := fun k => by
  rw [sle_not, sless_iff.2 k] at h; cases h
theorem le_not {x b : Str} (h : (sless x b || x == b) = false) : (b : List UInt8) < x := by
  rw [sle_not] at h
  exact sless_iff.1 (by simpa using h)
def sSampleBetween : PSpec := lawSpec [.str, .str, .str]
theorem fSampleBetween : FnOk Try.prog 7 := ⟨_, Try.func7, by decide, rfl⟩
theorem pSampleBetween : PSound Try.prog 7 sSampleBetween := by
  refine psound (T := tab) (S := (spOf [(13, sAwake33.spec (lsOf [])), (21, sBetween.spec (lsOf [])), (19, sPlace33.spec (lsOf [])), (16, sSortedR.spec (lsOf []))])) (keep := k7) (by kernel_rfl) tabOk (spCons (pOk pAwake33 fAwake33 (by decide) lsNil) (spCons (pOk pBetween fBetween (by decide) lsNil) (spCons (pOk pPlace33 fPlace33 (by decide) lsNil) (spCons (pOk pSortedR fSortedR (by decide) lsNil) spNil)))) (by kernel_rfl) Try.func7 (by kernel_rfl) (by decide) fun xs hg hp => ?_
  obtain ⟨a, b, x, ⟨⟩⟩ := xs
  change Str at a b x
  clear hg hp
  show vfun tab _ k7 Try.f7 [.s a, .s b, .s x] [] _
  refine Ev.out ?_
  repeat' (first | ((with_reducible refine Ev.mk ?_); conv => whnf) | (with_reducible refine And.intro ?_ ?_) | (intro h))
  all_goals (try simp only [decide_eq_true_eq, decide_eq_false_iff_not, beq_iff_eq, bne_iff_ne, beq_eq_false_iff_ne, bne_eq_false_iff_eq, Int.toNat_natCast, ge_iff_le, gt_iff_lt, Bool.not_eq_true', Bool.not_eq_false', Int.not_lt, Int.not_le, ne_eq] at *)
  all_goals (try dsimp only [Ty.den, Ty.dflt, StrsT, sPlace33] at *)
  all_goals (try simp only [eq4, ne4, eq3, ne3, eq2, ne2, Prod.eta, List.length_cons, List.length_nil, List.length_append, Nat.zero_add] at *)
  all_goals (try simp (disch := omega) only [wrap64] at *)
  all_goals try first | exact leafDraw (by kernel_rfl) | exact Leaf.mk trivial | (refine Leaf.mk ?_; omega) | (refine Leaf.mk ?_; unfold maxLen; omega)
  all_goals
    have sp : sless a b = true → Btw a b (sBetween.fn (a, b, ())).1.1 := fun h => between_spec h
    have sb : sless a b = false → (sBetween.fn (a, b, ())).1.1 = b := fun h => if_neg (by rw [h]; simp)
    generalize (sBetween.fn (a, b, ())).1.1 = t at *
    change Str at t
  all_goals first
    | exact Leaf.mk rfl
    | exact Leaf.mk (show a.length ≤ 1000 ∧ b.length ≤ 1000 by omega)
    | exact Leaf.mk (show ([a, t] : List Str).length ≤ 100000 by simp)
    | exact absurd (sb ‹_›) ‹_›
    | (have q := sp ‹sless a b = true›
       have hlen := q.len
       first
       | (exfalso; omega)
       | exact absurd q.lo (le_yes (show (sless t a || t == a) = true from ‹_›))
       | exact le_no (show (sless t b || t == b) = false from ‹_›) q.hi
       | exact absurd (show ¬ (((sortF [a, t]).length : Nat) : Int) = 2 from ‹_›) (by rw [sort_two q.lo]; simp)
       | exact absurd (show ¬ ((placeF [t] a : Nat) : Int) = 0 from ‹_›) (by rw [place_lo q.lo]; simp)
       | exact absurd (show ¬ ((placeF [t] b : Nat) : Int) = 1 from ‹_›) (by rw [place_hi q.hi]; simp)
       | (have l2 := q.least x (le_not (show (sless x a || x == a) = false from ‹_›)) (le_yes (show (sless x b || x == b) = true from ‹_›))
          first
          | (exfalso; have := l2.1; omega)
          | exact absurd (sless_iff.1 (show sless x t = true from ‹_›)) (l2.2 (by omega))))
    | (trace_state; sorry)
end Go.Proofs.Ytcgfolhnoggjfaa
