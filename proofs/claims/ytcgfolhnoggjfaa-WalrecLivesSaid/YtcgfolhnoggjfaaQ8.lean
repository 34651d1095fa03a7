import Derived.Test.YtcgfolhnoggjfaaQ7
/- Texts, one behind the other. -/
set_option linter.unusedVariables false
set_option linter.unusedSimpArgs false
set_option maxRecDepth 8000
set_option maxHeartbeats 4000000
namespace Go.Proofs.Ytcgfolhnoggjfaa
open Go.Eng
theorem insZ_at {x : Int} : ∀ {O : List Int} {p : Nat}, p ≤ O.length → (∀ j, j < p → O.getD j 0 < x) → (p < O.length → ¬ O.getD p 0 < x) → insZ x O = O.take p ++ [x] ++ O.drop p
  | [], p, hp, _, _ => by
    have : p = 0 := by simpa using hp
    subst this; rfl
  | y :: r, 0, _, _, h => by
    have := h (by simp)
    rw [insZ, if_neg (by simpa using this)]; rfl
  | y :: r, p + 1, hp, h1, h2 => by
    have h0 := h1 0 (by omega)
    rw [insZ, if_pos (by simpa using h0), insZ_at (p := p) (by simpa using hp) (fun j hj => by simpa using h1 (j + 1) (by omega)) (fun hl => by simpa using h2 (by simpa using hl))]
    rfl
theorem insZ_len (x : Int) (O : List Int) : (insZ x O).length = O.length + 1 := by rw [(insZ_perm x O).length_eq]; rfl
def relB (t : Int) (r : Rec) : Bool := !(r.1 == 4) && r.2.1 == t
theorem relB_iff {t : Int} {r : Rec} : relB t r = true ↔ relT t r := by simp [relB, relT]
def flagN (r : Rec) (xs : List Rec) : Bool := (!(r.1 == 4) && (!(r.1 == 2) && !(r.1 == 3))) && xs.all fun x => !relB r.2.1 x
theorem flagN_iff {r : Rec} {xs : List Rec} : flagN r xs = true ↔ lastB r xs := by
  simp only [flagN, lastB, Bool.and_eq_true, Bool.not_eq_true', beq_eq_false_iff_ne, List.all_eq_true]
  constructor
  · rintro ⟨⟨h1, h2, h3⟩, h4⟩
    exact ⟨⟨h1, h2, h3⟩, fun x hx hc => by have := h4 x hx; rw [relB_iff.2 hc] at this; cases this⟩
  · rintro ⟨⟨h1, h2, h3⟩, h4⟩
    exact ⟨⟨h1, h2, h3⟩, fun x hx => by rw [Bool.eq_false_iff]; exact fun hc => h4 x hx (relB_iff.1 hc)⟩
def cutR (l : List Rec) (i k : Nat) : List Rec := (l.take k).drop (i + 1)
theorem cutR_at {l : List Rec} {i k : Nat} (h : k < l.length) (hi : i + 1 ≤ k) : cutR l i (k + 1) = cutR l i k ++ [l.getD k rec0] := by
  rw [cutR, take_at rec0 h, List.drop_append_of_le_length (by rw [List.length_take]; omega)]; rfl
theorem flag_at {l : List Rec} {i k : Nat} (h : k < l.length) (hi : i + 1 ≤ k) : flagN (l.getD i rec0) (cutR l i (k + 1)) = (flagN (l.getD i rec0) (cutR l i k) && !relB (l.getD i rec0).2.1 (l.getD k rec0)) := by
  rw [flagN, flagN, cutR_at h hi, List.all_append, List.all_cons, List.all_nil, Bool.and_true]
  simp only [Bool.and_assoc]
theorem flag_0 (l : List Rec) (i : Nat) : flagN (l.getD i rec0) (cutR l i (i + 1)) = (!((l.getD i rec0).1 == 4) && (!((l.getD i rec0).1 == 2) && !((l.getD i rec0).1 == 3))) := by
  have : cutR l i (i + 1) = [] := by rw [cutR]; exact List.drop_of_length_le (by rw [List.length_take]; omega)
  rw [this, flagN, List.all_nil, Bool.and_true]
theorem lasts_at {l : List Rec} {i : Nat} (h : i < l.length) : lasts (l.drop i) = if flagN (l.getD i rec0) (cutR l i l.length) = true then (l.getD i rec0).2.1 :: lasts (l.drop (i + 1)) else lasts (l.drop (i + 1)) := by
  rw [drop_at rec0 h, lasts]
  have : cutR l i l.length = l.drop (i + 1) := by rw [cutR, List.take_length]
  rw [this]
  by_cases hb : lastB (l.getD i rec0) (l.drop (i + 1))
  · rw [if_pos hb, if_pos (flagN_iff.2 hb)]
  · rw [if_neg hb, if_neg (fun hc => hb (flagN_iff.1 hc))]
abbrev fIns (xs O : List Int) : List Int := xs.foldl (fun o x => insZ x o) O
def sWLiveR : PSpec := ⟨[.d RsT], [⟨false, [.d (.slice (.int .i64))]⟩], fun x => List.length x.1 ≤ 1000, fun x => ((liveF x.1, ()), ())⟩
theorem fWLiveR : FnOk Try.prog 44 := ⟨_, Try.func44, by decide, rfl⟩
theorem pWLiveR : PSound Try.prog 44 sWLiveR := by
  refine psound (T := tab) (S := (spOf [])) (keep := k44) (by kernel_rfl) tabOk spNil (by kernel_rfl) Try.func44 (by kernel_rfl) (by decide) fun xs hg hp => ?_
  obtain ⟨l, ⟨⟩⟩ := xs
  change List Rec at l
  change l.length ≤ 1000 at hp
  clear hg
  show vfun tab _ k44 Try.f44 [.sl RecT l] [] _
  refine Ev.out ?_
  repeat' (first | ((with_reducible refine Ev.mk ?_); conv => whnf) | (with_reducible refine And.intro ?_ ?_) | (intro h))
  all_goals (try simp only [decide_eq_true_eq, decide_eq_false_iff_not, beq_iff_eq, bne_iff_ne, beq_eq_false_iff_ne, bne_eq_false_iff_eq, Int.toNat_natCast, ge_iff_le, gt_iff_lt, Bool.not_eq_true', Bool.not_eq_false', Int.not_lt, Int.not_le, ne_eq] at *)
  all_goals (try dsimp only [Ty.den, Ty.dflt, RecT] at *)
  all_goals (try simp only [eq4, ne4, eq3, ne3, eq2, ne2, Prod.eta, List.length_cons, List.length_nil, List.length_append, Nat.zero_add] at *)
  all_goals (try simp (disch := omega) only [wrap64] at *)
  all_goals try first | exact leafDraw (by kernel_rfl) | exact Leaf.mk trivial | (refine Leaf.mk ?_; omega) | (refine Leaf.mk ?_; unfold maxLen; omega)
  refine LoopVC.weak2 [(.slot 3, .sl (.int .i64))] (fun a : Nat × List Int => [(3, .sl (.int .i64) a.2), (4, .i .i64 a.1)]) (fun _ => []) (fun a => a.1 ≤ l.length ∧ a.2.length ≤ a.1 ∧ fIns (lasts (l.drop a.1)) a.2 = liveF l) (fun a => l.length - a.1) (0, []) (Ev.mk ?_)
  (conv => whnf)
  refine ⟨Leaf.mk ?_, Leaf.mk ?_, ?_⟩
  · rfl
  · exact ⟨by dsimp only; omega, by simp, (live_lasts l).symm⟩
  intro ⟨i, O⟩ ⟨hi, hO, hf⟩
  dsimp only at hi hO hf ⊢
  have hl1 := fun h => lasts_at (l := l) (i := i) h
  have hf0 := flag_0 l i
  repeat' (first | ((with_reducible refine Ev.mk ?_); conv => whnf) | (with_reducible refine And.intro ?_ ?_) | (intro h))
  all_goals (try simp only [decide_eq_true_eq, decide_eq_false_iff_not, beq_iff_eq, bne_iff_ne, beq_eq_false_iff_ne, bne_eq_false_iff_eq, Int.toNat_natCast, ge_iff_le, gt_iff_lt, Bool.not_eq_true', Bool.not_eq_false', Int.not_lt, Int.not_le, ne_eq] at *)
  all_goals (try dsimp only [Ty.den, Ty.dflt, RecT] at *)
  all_goals (try simp only [eq4, ne4, eq3, ne3, eq2, ne2, Prod.eta, List.length_cons, List.length_nil, List.length_append, Nat.zero_add] at *)
  all_goals (try simp (disch := omega) only [wrap64] at *)
  all_goals try first | exact leafDraw (by kernel_rfl) | exact Leaf.mk trivial | (refine Leaf.mk ?_; omega) | (refine Leaf.mk ?_; unfold maxLen; omega)
  · refine LoopVC.weak2 [] (fun k : Nat => [(5, .b (flagN (l.getD i rec0) (cutR l i k))), (6, .i .i64 k)]) (fun _ => []) (fun k => i + 1 ≤ k ∧ k ≤ l.length) (fun k => l.length - k) (i + 1) (Ev.mk ?_)
    (conv => whnf)
    refine ⟨Leaf.mk ?_, Leaf.mk ?_, ?_⟩
    · rw [hf0]
      first
      | (rw [beq_eq_false_iff_ne.2 (show ¬ (l.getD i rec0).1 = 4 from ‹_›), beq_eq_false_iff_ne.2 (show ¬ (l.getD i rec0).1 = 2 from ‹_›)]; rfl)
      | (rw [show (l.getD i rec0).1 = 4 from ‹_›]; rfl)
      | (rw [show (l.getD i rec0).1 = 2 from ‹_›]; rfl)
    · omega
    intro k ⟨hik, hk⟩
    have hfk := fun h => flag_at (l := l) (i := i) (k := k) h hik
    repeat' (first | ((with_reducible refine Ev.mk ?_); conv => whnf) | (with_reducible refine And.intro ?_ ?_) | (intro h))
    all_goals (try simp only [decide_eq_true_eq, decide_eq_false_iff_not, beq_iff_eq, bne_iff_ne, beq_eq_false_iff_ne, bne_eq_false_iff_eq, Int.toNat_natCast, ge_iff_le, gt_iff_lt, Bool.not_eq_true', Bool.not_eq_false', Int.not_lt, Int.not_le, ne_eq] at *)
    all_goals (try dsimp only [Ty.den, Ty.dflt, RecT] at *)
    all_goals (try simp only [eq4, ne4, eq3, ne3, eq2, ne2, Prod.eta, List.length_cons, List.length_nil, List.length_append, Nat.zero_add] at *)
    all_goals (try simp (disch := omega) only [wrap64] at *)
    all_goals try first | exact leafDraw (by kernel_rfl) | exact Leaf.mk trivial | (refine Leaf.mk ?_; omega) | (refine Leaf.mk ?_; unfold maxLen; omega)
    · refine Leaf.mk ⟨k + 1, .inr ⟨[(.slot 5, .b)], ?_⟩, by omega, by omega⟩
      rw [hfk (by omega), show flagN (l.getD i rec0) (cutR l i k) = true from ‹_›, relB, show (l.getD k rec0).1 = 4 from ‹_›]; rfl
    · refine Leaf.mk ⟨k + 1, .inl ?_, by omega, by omega⟩
      rw [hfk (by omega), show flagN (l.getD i rec0) (cutR l i k) = true from ‹_›, relB, beq_eq_false_iff_ne.2 (show ¬ (l.getD k rec0).1 = 4 from ‹_›)]; rfl
    · refine Leaf.mk ⟨k + 1, .inr ⟨[(.slot 5, .b)], ?_⟩, by omega, by omega⟩
      rw [hfk (by omega), show flagN (l.getD i rec0) (cutR l i k) = false from ‹_›, Bool.false_and]; rfl
    all_goals
      have hkl : k = l.length := by omega
      subst hkl
      rw [hl1 (by omega)] at hf
    · refine Leaf.mk ⟨(i + 1, O), .inl rfl, ⟨by dsimp only; omega, by dsimp only; omega, ?_⟩, by dsimp only; omega⟩
      rw [if_neg (by rw [show flagN (l.getD i rec0) (cutR l i l.length) = false from ‹_›]; simp)] at hf
      exact hf
    rw [if_pos ‹flagN (l.getD i rec0) (cutR l i l.length) = true›, fIns, List.foldl_cons] at hf
    refine LoopVC.on (fun p : Nat => [(7, .i .i64 p)]) (fun _ => []) (fun p => p ≤ O.length ∧ ∀ j, j < p → O.getD j 0 < (l.getD i rec0).2.1) (fun p => O.length - p) 0 rfl ⟨by omega, fun j hj => by omega⟩ ?_
    intro p ⟨hp1, hj⟩
    repeat' (first | ((with_reducible refine Ev.mk ?_); conv => whnf) | (with_reducible refine And.intro ?_ ?_) | (intro h))
    all_goals (try simp only [decide_eq_true_eq, decide_eq_false_iff_not, beq_iff_eq, bne_iff_ne, beq_eq_false_iff_ne, bne_eq_false_iff_eq, Int.toNat_natCast, ge_iff_le, gt_iff_lt, Bool.not_eq_true', Bool.not_eq_false', Int.not_lt, Int.not_le, ne_eq] at *)
    all_goals (try dsimp only [Ty.den, Ty.dflt, RecT] at *)
    all_goals (try simp only [eq4, ne4, eq3, ne3, eq2, ne2, Prod.eta, List.length_cons, List.length_nil, List.length_append, Nat.zero_add] at *)
    all_goals (try simp (disch := omega) only [wrap64] at *)
    all_goals try first | exact leafDraw (by kernel_rfl) | exact Leaf.mk trivial | (refine Leaf.mk ?_; omega) | (refine Leaf.mk ?_; unfold maxLen; omega)
    all_goals try simp only [Int.toNat_zero, List.drop_zero, List.nil_append, take_all (Nat.le_refl O.length)] at *
    all_goals try first
      | (refine Leaf.mk ?_; simp only [List.length_take, List.length_drop]; omega)
      | (refine Leaf.mk ?_; simp only [List.length_take, List.length_drop]; unfold maxLen; omega)
    all_goals first
      | (refine Leaf.mk ⟨p + 1, rfl, ⟨by omega, fun j hji => ?_⟩, by omega⟩
         rcases Nat.lt_or_ge j p with h1 | h1
         · exact hj j h1
         · have hjp : j = p := by omega
           subst hjp
           assumption)
      | (have hins : insZ (l.getD i rec0).2.1 O = O.take p ++ [(l.getD i rec0).2.1] ++ O.drop p := insZ_at hp1 hj (fun h9 => by first | (exfalso; omega) | exact Int.not_lt.2 (show (l.getD i rec0).2.1 ≤ O.getD p 0 from ‹_›))
         refine Leaf.mk ⟨(i + 1, insZ (l.getD i rec0).2.1 O), .inr ⟨[(.slot 3, .frz)], ?_⟩, ⟨by dsimp only; omega, by dsimp only; rw [insZ_len]; omega, hf⟩, by dsimp only; omega⟩
         (conv => whnf)
         rw [hins]; rfl)
      | skip
  · refine LoopVC.weak2 [(.slot 5, .b)] (fun k : Nat => [(5, .b (flagN (l.getD i rec0) (cutR l i k))), (6, .i .i64 k)]) (fun _ => []) (fun k => i + 1 ≤ k ∧ k ≤ l.length) (fun k => l.length - k) (i + 1) (Ev.mk ?_)
    (conv => whnf)
    refine ⟨Leaf.mk ?_, Leaf.mk ?_, ?_⟩
    · rw [hf0]
      first
      | (rw [beq_eq_false_iff_ne.2 (show ¬ (l.getD i rec0).1 = 4 from ‹_›), beq_eq_false_iff_ne.2 (show ¬ (l.getD i rec0).1 = 2 from ‹_›)]; rfl)
      | (rw [show (l.getD i rec0).1 = 4 from ‹_›]; rfl)
      | (rw [show (l.getD i rec0).1 = 2 from ‹_›]; rfl)
    · omega
    intro k ⟨hik, hk⟩
    have hfk := fun h => flag_at (l := l) (i := i) (k := k) h hik
    repeat' (first | ((with_reducible refine Ev.mk ?_); conv => whnf) | (with_reducible refine And.intro ?_ ?_) | (intro h))
    all_goals (try simp only [decide_eq_true_eq, decide_eq_false_iff_not, beq_iff_eq, bne_iff_ne, beq_eq_false_iff_ne, bne_eq_false_iff_eq, Int.toNat_natCast, ge_iff_le, gt_iff_lt, Bool.not_eq_true', Bool.not_eq_false', Int.not_lt, Int.not_le, ne_eq] at *)
    all_goals (try dsimp only [Ty.den, Ty.dflt, RecT] at *)
    all_goals (try simp only [eq4, ne4, eq3, ne3, eq2, ne2, Prod.eta, List.length_cons, List.length_nil, List.length_append, Nat.zero_add] at *)
    all_goals (try simp (disch := omega) only [wrap64] at *)
    all_goals try first | exact leafDraw (by kernel_rfl) | exact Leaf.mk trivial | (refine Leaf.mk ?_; omega) | (refine Leaf.mk ?_; unfold maxLen; omega)
    · refine Leaf.mk ⟨k + 1, .inr ⟨[(.slot 5, .b)], ?_⟩, by omega, by omega⟩
      rw [hfk (by omega), show flagN (l.getD i rec0) (cutR l i k) = true from ‹_›, relB, show (l.getD k rec0).1 = 4 from ‹_›]; rfl
    · refine Leaf.mk ⟨k + 1, .inl ?_, by omega, by omega⟩
      rw [hfk (by omega), show flagN (l.getD i rec0) (cutR l i k) = true from ‹_›, relB, beq_eq_false_iff_ne.2 (show ¬ (l.getD k rec0).1 = 4 from ‹_›)]; rfl
    · refine Leaf.mk ⟨k + 1, .inr ⟨[(.slot 5, .b)], ?_⟩, by omega, by omega⟩
      rw [hfk (by omega), show flagN (l.getD i rec0) (cutR l i k) = false from ‹_›, Bool.false_and]; rfl
    all_goals
      have hkl : k = l.length := by omega
      subst hkl
      rw [hl1 (by omega)] at hf
    · refine Leaf.mk ⟨(i + 1, O), .inl rfl, ⟨by dsimp only; omega, by dsimp only; omega, ?_⟩, by dsimp only; omega⟩
      rw [if_neg (by rw [show flagN (l.getD i rec0) (cutR l i l.length) = false from ‹_›]; simp)] at hf
      exact hf
    rw [if_pos ‹flagN (l.getD i rec0) (cutR l i l.length) = true›, fIns, List.foldl_cons] at hf
    refine LoopVC.on (fun p : Nat => [(7, .i .i64 p)]) (fun _ => []) (fun p => p ≤ O.length ∧ ∀ j, j < p → O.getD j 0 < (l.getD i rec0).2.1) (fun p => O.length - p) 0 rfl ⟨by omega, fun j hj => by omega⟩ ?_
    intro p ⟨hp1, hj⟩
    repeat' (first | ((with_reducible refine Ev.mk ?_); conv => whnf) | (with_reducible refine And.intro ?_ ?_) | (intro h))
    all_goals (try simp only [decide_eq_true_eq, decide_eq_false_iff_not, beq_iff_eq, bne_iff_ne, beq_eq_false_iff_ne, bne_eq_false_iff_eq, Int.toNat_natCast, ge_iff_le, gt_iff_lt, Bool.not_eq_true', Bool.not_eq_false', Int.not_lt, Int.not_le, ne_eq] at *)
    all_goals (try dsimp only [Ty.den, Ty.dflt, RecT] at *)
    all_goals (try simp only [eq4, ne4, eq3, ne3, eq2, ne2, Prod.eta, List.length_cons, List.length_nil, List.length_append, Nat.zero_add] at *)
    all_goals (try simp (disch := omega) only [wrap64] at *)
    all_goals try first | exact leafDraw (by kernel_rfl) | exact Leaf.mk trivial | (refine Leaf.mk ?_; omega) | (refine Leaf.mk ?_; unfold maxLen; omega)
    all_goals try simp only [Int.toNat_zero, List.drop_zero, List.nil_append, take_all (Nat.le_refl O.length)] at *
    all_goals try first
      | (refine Leaf.mk ?_; simp only [List.length_take, List.length_drop]; omega)
      | (refine Leaf.mk ?_; simp only [List.length_take, List.length_drop]; unfold maxLen; omega)
    all_goals first
      | (refine Leaf.mk ⟨p + 1, rfl, ⟨by omega, fun j hji => ?_⟩, by omega⟩
         rcases Nat.lt_or_ge j p with h1 | h1
         · exact hj j h1
         · have hjp : j = p := by omega
           subst hjp
           assumption)
      | (have hins : insZ (l.getD i rec0).2.1 O = O.take p ++ [(l.getD i rec0).2.1] ++ O.drop p := insZ_at hp1 hj (fun h9 => by first | (exfalso; omega) | exact Int.not_lt.2 (show (l.getD i rec0).2.1 ≤ O.getD p 0 from ‹_›))
         refine Leaf.mk ⟨(i + 1, insZ (l.getD i rec0).2.1 O), .inr ⟨[(.slot 3, .frz)], ?_⟩, ⟨by dsimp only; omega, by dsimp only; rw [insZ_len]; omega, hf⟩, by dsimp only; omega⟩
         (conv => whnf)
         rw [hins]; rfl)
      | skip
  · refine LoopVC.weak2 [(.slot 5, .b)] (fun k : Nat => [(5, .b (flagN (l.getD i rec0) (cutR l i k))), (6, .i .i64 k)]) (fun _ => []) (fun k => i + 1 ≤ k ∧ k ≤ l.length) (fun k => l.length - k) (i + 1) (Ev.mk ?_)
    (conv => whnf)
    refine ⟨Leaf.mk ?_, Leaf.mk ?_, ?_⟩
    · rw [hf0]
      first
      | (rw [beq_eq_false_iff_ne.2 (show ¬ (l.getD i rec0).1 = 4 from ‹_›), beq_eq_false_iff_ne.2 (show ¬ (l.getD i rec0).1 = 2 from ‹_›)]; rfl)
      | (rw [show (l.getD i rec0).1 = 4 from ‹_›]; rfl)
      | (rw [show (l.getD i rec0).1 = 2 from ‹_›]; rfl)
    · omega
    intro k ⟨hik, hk⟩
    have hfk := fun h => flag_at (l := l) (i := i) (k := k) h hik
    repeat' (first | ((with_reducible refine Ev.mk ?_); conv => whnf) | (with_reducible refine And.intro ?_ ?_) | (intro h))
    all_goals (try simp only [decide_eq_true_eq, decide_eq_false_iff_not, beq_iff_eq, bne_iff_ne, beq_eq_false_iff_ne, bne_eq_false_iff_eq, Int.toNat_natCast, ge_iff_le, gt_iff_lt, Bool.not_eq_true', Bool.not_eq_false', Int.not_lt, Int.not_le, ne_eq] at *)
    all_goals (try dsimp only [Ty.den, Ty.dflt, RecT] at *)
    all_goals (try simp only [eq4, ne4, eq3, ne3, eq2, ne2, Prod.eta, List.length_cons, List.length_nil, List.length_append, Nat.zero_add] at *)
    all_goals (try simp (disch := omega) only [wrap64] at *)
    all_goals try first | exact leafDraw (by kernel_rfl) | exact Leaf.mk trivial | (refine Leaf.mk ?_; omega) | (refine Leaf.mk ?_; unfold maxLen; omega)
    · refine Leaf.mk ⟨k + 1, .inr ⟨[(.slot 5, .b)], ?_⟩, by omega, by omega⟩
      rw [hfk (by omega), show flagN (l.getD i rec0) (cutR l i k) = true from ‹_›, relB, show (l.getD k rec0).1 = 4 from ‹_›]; rfl
    · refine Leaf.mk ⟨k + 1, .inl ?_, by omega, by omega⟩
      rw [hfk (by omega), show flagN (l.getD i rec0) (cutR l i k) = true from ‹_›, relB, beq_eq_false_iff_ne.2 (show ¬ (l.getD k rec0).1 = 4 from ‹_›)]; rfl
    · refine Leaf.mk ⟨k + 1, .inr ⟨[(.slot 5, .b)], ?_⟩, by omega, by omega⟩
      rw [hfk (by omega), show flagN (l.getD i rec0) (cutR l i k) = false from ‹_›, Bool.false_and]; rfl
    all_goals
      have hkl : k = l.length := by omega
      subst hkl
      rw [hl1 (by omega)] at hf
    · refine Leaf.mk ⟨(i + 1, O), .inl rfl, ⟨by dsimp only; omega, by dsimp only; omega, ?_⟩, by dsimp only; omega⟩
      rw [if_neg (by rw [show flagN (l.getD i rec0) (cutR l i l.length) = false from ‹_›]; simp)] at hf
      exact hf
    rw [if_pos ‹flagN (l.getD i rec0) (cutR l i l.length) = true›, fIns, List.foldl_cons] at hf
    refine LoopVC.on (fun p : Nat => [(7, .i .i64 p)]) (fun _ => []) (fun p => p ≤ O.length ∧ ∀ j, j < p → O.getD j 0 < (l.getD i rec0).2.1) (fun p => O.length - p) 0 rfl ⟨by omega, fun j hj => by omega⟩ ?_
    intro p ⟨hp1, hj⟩
    repeat' (first | ((with_reducible refine Ev.mk ?_); conv => whnf) | (with_reducible refine And.intro ?_ ?_) | (intro h))
    all_goals (try simp only [decide_eq_true_eq, decide_eq_false_iff_not, beq_iff_eq, bne_iff_ne, beq_eq_false_iff_ne, bne_eq_false_iff_eq, Int.toNat_natCast, ge_iff_le, gt_iff_lt, Bool.not_eq_true', Bool.not_eq_false', Int.not_lt, Int.not_le, ne_eq] at *)
    all_goals (try dsimp only [Ty.den, Ty.dflt, RecT] at *)
    all_goals (try simp only [eq4, ne4, eq3, ne3, eq2, ne2, Prod.eta, List.length_cons, List.length_nil, List.length_append, Nat.zero_add] at *)
    all_goals (try simp (disch := omega) only [wrap64] at *)
    all_goals try first | exact leafDraw (by kernel_rfl) | exact Leaf.mk trivial | (refine Leaf.mk ?_; omega) | (refine Leaf.mk ?_; unfold maxLen; omega)
    all_goals try simp only [Int.toNat_zero, List.drop_zero, List.nil_append, take_all (Nat.le_refl O.length)] at *
    all_goals try first
      | (refine Leaf.mk ?_; simp only [List.length_take, List.length_drop]; omega)
      | (refine Leaf.mk ?_; simp only [List.length_take, List.length_drop]; unfold maxLen; omega)
    all_goals first
      | (refine Leaf.mk ⟨p + 1, rfl, ⟨by omega, fun j hji => ?_⟩, by omega⟩
         rcases Nat.lt_or_ge j p with h1 | h1
         · exact hj j h1
         · have hjp : j = p := by omega
           subst hjp
           assumption)
      | (have hins : insZ (l.getD i rec0).2.1 O = O.take p ++ [(l.getD i rec0).2.1] ++ O.drop p := insZ_at hp1 hj (fun h9 => by first | (exfalso; omega) | exact Int.not_lt.2 (show (l.getD i rec0).2.1 ≤ O.getD p 0 from ‹_›))
         refine Leaf.mk ⟨(i + 1, insZ (l.getD i rec0).2.1 O), .inr ⟨[(.slot 3, .frz)], ?_⟩, ⟨by dsimp only; omega, by dsimp only; rw [insZ_len]; omega, hf⟩, by dsimp only; omega⟩
         (conv => whnf)
         rw [hins]; rfl)
      | skip
  · refine Leaf.mk (ret1 (show O = liveF l from ?_))
    rw [drop_end (by omega)] at hf
    exact hf
end Go.Proofs.Ytcgfolhnoggjfaa

set_option linter.unusedVariables false
set_option linter.unusedSimpArgs false
set_option maxRecDepth 8000
set_option maxHeartbeats 4000000
namespace Go.Proofs.Ytcgfolhnoggjfaa
open Go.Eng
def lightW1 (r : Rec) : Bool := decide (r.2.2.2.1.length ≤ 100 ∧ r.2.2.2.2.2.length ≤ 100)
def lightW (l : List Rec) (most : Int) : Bool := decide ((l.length : Int) ≤ most) && l.all lightW1
theorem lightW_of {l : List Rec} {m : Int} (h : lightW l m = true) : (l.length : Int) ≤ m ∧ ∀ r ∈ l, r.2.2.2.1.length ≤ 100 ∧ r.2.2.2.2.2.length ≤ 100 := by
  unfold lightW at h
  rw [Bool.and_eq_true, List.all_eq_true] at h
  exact ⟨of_decide_eq_true h.1, fun r hr => of_decide_eq_true (h.2 r hr)⟩
def sLightW : PSpec := ⟨[.d RsT, .d (.int .i64)], [⟨false, [.d .bool]⟩], fun _ => True, fun x => ((lightW x.1 x.2.1, ()), ())⟩
theorem allW_at {p : Rec → Bool} {xs : List Rec} {i : Nat} (h : i < xs.length) : (xs.take (i + 1)).all p = ((xs.take i).all p && p (xs.getD i rec0)) := by
  rw [take_at rec0 h, List.all_append]; simp
theorem allW_no {p : Rec → Bool} {xs : List Rec} {i : Nat} (h : i < xs.length) (hn : p (xs.getD i rec0) = false) : xs.all p = false := by
  have : ¬ xs.all p = true := fun hc => by
    rw [List.all_eq_true] at hc
    have := hc _ (getD_mem rec0 h)
    rw [hn] at this; exact absurd this (by simp)
  exact Bool.eq_false_iff.2 this
theorem fLightW : FnOk Try.prog 35 := ⟨_, Try.func35, by decide, rfl⟩
theorem pLightW : PSound Try.prog 35 sLightW := by
  refine psound (T := tab) (S := (spOf [])) (keep := k35) (by kernel_rfl) tabOk spNil (by kernel_rfl) Try.func35 (by kernel_rfl) (by decide) fun xs hg hp => ?_
  obtain ⟨xs, most, ⟨⟩⟩ := xs
  obtain ⟨⟨hl, -⟩, -⟩ := hg
  change List Rec at xs
  change Int at most
  change xs.length ≤ _ at hl
  have hl := len63 hl
  clear hp
  show vfun tab _ k35 Try.f35 [.sl RecT xs, .i .i64 most] [] _
  refine Ev.out ?_
  repeat' (first | ((with_reducible refine Ev.mk ?_); conv => whnf) | (with_reducible refine And.intro ?_ ?_) | (intro h))
  all_goals (try simp only [decide_eq_true_eq, decide_eq_false_iff_not, beq_iff_eq, bne_iff_ne, beq_eq_false_iff_ne, bne_eq_false_iff_eq, Int.toNat_natCast, ge_iff_le, gt_iff_lt, Bool.not_eq_true', Bool.not_eq_false', Int.not_lt, Int.not_le, ne_eq] at *)
  all_goals (try dsimp only [Ty.den, Ty.dflt, RecT] at *)
  all_goals (try simp only [eq4, ne4, eq3, ne3, eq2, ne2, Prod.eta, List.length_cons, List.length_nil, List.length_append, Nat.zero_add] at *)
  all_goals (try simp (disch := omega) only [wrap64] at *)
  · refine Leaf.mk (ret1 (show false = lightW xs most from ?_))
    rw [lightW, decide_eq_false (by omega), Bool.false_and]
  refine LoopVC.on (fun i : Nat => [(5, .i .i64 i)]) (fun _ => []) (fun i => i ≤ xs.length ∧ (xs.take i).all lightW1 = true) (fun i => xs.length - i) 0 rfl ⟨by omega, rfl⟩ ?_
  intro i ⟨hi, he⟩
  repeat' (first | ((with_reducible refine Ev.mk ?_); conv => whnf) | (with_reducible refine And.intro ?_ ?_) | (intro h))
  all_goals (try simp only [decide_eq_true_eq, decide_eq_false_iff_not, beq_iff_eq, bne_iff_ne, beq_eq_false_iff_ne, bne_eq_false_iff_eq, Int.toNat_natCast, ge_iff_le, gt_iff_lt, Bool.not_eq_true', Bool.not_eq_false', Int.not_lt, Int.not_le, ne_eq] at *)
  all_goals (try dsimp only [Ty.den, Ty.dflt, RecT] at *)
  all_goals (try simp only [eq4, ne4, eq3, ne3, eq2, ne2, Prod.eta, List.length_cons, List.length_nil, List.length_append, Nat.zero_add] at *)
  all_goals (try simp (disch := omega) only [wrap64] at *)
  all_goals try first | exact leafDraw (by kernel_rfl) | exact Leaf.mk trivial | (refine Leaf.mk ?_; omega) | (refine Leaf.mk ?_; unfold maxLen; omega)
  all_goals first
    | (refine Leaf.mk (ret1 (show false = lightW xs most from ?_))
       rw [lightW, allW_no (i := i) (by omega) (decide_eq_false (by dsimp only [rec0]; omega)), Bool.and_false])
    | (refine Leaf.mk ⟨i + 1, rfl, ⟨by omega, ?_⟩, by omega⟩
       rw [allW_at (by omega), he, Bool.true_and]
       exact decide_eq_true (by dsimp only [rec0]; omega))
    | (refine Leaf.mk (ret1 (show true = lightW xs most from ?_))
       rw [List.take_of_length_le (by omega)] at he
       rw [lightW, he, Bool.and_true, decide_eq_true (by omega)])
def mxZ (a b : Int) : Int := if b > a then b else a
def clockF (l : List Rec) (f : Int) : Int := l.foldl (fun a r => mxZ a r.2.2.1) f
def sWClock : PSpec := ⟨[.d RsT, .d (.int .i64)], [⟨false, [.d (.int .i64)]⟩], fun x => List.length x.1 ≤ 1000, fun x => ((clockF x.1 x.2.1, ()), ())⟩
def sWClockR : PSpec := sWClock
theorem fWClock : FnOk Try.prog 45 := ⟨_, Try.func45, by decide, rfl⟩
theorem pWClock : PSound Try.prog 45 sWClock := by
  refine psound (T := tab) (S := (spOf [])) (keep := k45) (by kernel_rfl) tabOk spNil (by kernel_rfl) Try.func45 (by kernel_rfl) (by decide) fun xs hg hp => ?_
  obtain ⟨l, f, ⟨⟩⟩ := xs
  change List Rec at l
  change Int at f
  change l.length ≤ 1000 at hp
  clear hg
  show vfun tab _ k45 Try.f45 [.sl RecT l, .i .i64 f] [] _
  refine Ev.out ?_
  repeat' (first | ((with_reducible refine Ev.mk ?_); conv => whnf) | (with_reducible refine And.intro ?_ ?_) | (intro h))
  all_goals (try simp only [decide_eq_true_eq, decide_eq_false_iff_not, beq_iff_eq, bne_iff_ne, beq_eq_false_iff_ne, bne_eq_false_iff_eq, Int.toNat_natCast, ge_iff_le, gt_iff_lt, Bool.not_eq_true', Bool.not_eq_false', Int.not_lt, Int.not_le, ne_eq] at *)
  all_goals (try dsimp only [Ty.den, Ty.dflt, RecT] at *)
  all_goals (try simp only [eq4, ne4, eq3, ne3, eq2, ne2, Prod.eta, List.length_cons, List.length_nil, List.length_append, Nat.zero_add] at *)
  all_goals (try simp (disch := omega) only [wrap64] at *)
  all_goals try first | exact leafDraw (by kernel_rfl) | exact Leaf.mk trivial | (refine Leaf.mk ?_; omega) | (refine Leaf.mk ?_; unfold maxLen; omega)
  refine LoopVC.on (fun i : Nat => [(1, .i .i64 (clockF (l.take i) f)), (9, .i .i64 i)]) (fun _ => []) (fun i => i ≤ l.length) (fun i => l.length - i) 0 rfl (by omega) ?_
  intro i hi
  have hat : i < l.length → clockF (l.take (i + 1)) f = mxZ (clockF (l.take i) f) (l.getD i rec0).2.2.1 := fun h => foldl_at rec0 h
  repeat' (first | ((with_reducible refine Ev.mk ?_); conv => whnf) | (with_reducible refine And.intro ?_ ?_) | (intro h))
  all_goals (try simp only [decide_eq_true_eq, decide_eq_false_iff_not, beq_iff_eq, bne_iff_ne, beq_eq_false_iff_ne, bne_eq_false_iff_eq, Int.toNat_natCast, ge_iff_le, gt_iff_lt, Bool.not_eq_true', Bool.not_eq_false', Int.not_lt, Int.not_le, ne_eq] at *)
  all_goals (try dsimp only [Ty.den, Ty.dflt, RecT] at *)
  all_goals (try simp only [eq4, ne4, eq3, ne3, eq2, ne2, Prod.eta, List.length_cons, List.length_nil, List.length_append, Nat.zero_add] at *)
  all_goals (try simp (disch := omega) only [wrap64] at *)
  all_goals try first | exact leafDraw (by kernel_rfl) | exact Leaf.mk trivial | (refine Leaf.mk ?_; omega) | (refine Leaf.mk ?_; unfold maxLen; omega)
  · refine Leaf.mk (Exists.intro (i + 1) ⟨?_, by omega, by omega⟩)
    rw [hat (by omega)]; rfl
  · refine Leaf.mk (ret1 (show clockF (l.take i) f = clockF l f from ?_))
    rw [List.take_of_length_le (by omega)]
theorem fWClockR : FnOk Try.prog 46 := ⟨_, Try.func46, by decide, rfl⟩
theorem pWClockR : PSound Try.prog 46 sWClockR := by
  refine psound (T := tab) (S := (spOf [])) (keep := k46) (by kernel_rfl) tabOk spNil (by kernel_rfl) Try.func46 (by kernel_rfl) (by decide) fun xs hg hp => ?_
  obtain ⟨l, f, ⟨⟩⟩ := xs
  change List Rec at l
  change Int at f
  change l.length ≤ 1000 at hp
  clear hg
  show vfun tab _ k46 Try.f46 [.sl RecT l, .i .i64 f] [] _
  refine Ev.out ?_
  repeat' (first | ((with_reducible refine Ev.mk ?_); conv => whnf) | (with_reducible refine And.intro ?_ ?_) | (intro h))
  all_goals (try simp only [decide_eq_true_eq, decide_eq_false_iff_not, beq_iff_eq, bne_iff_ne, beq_eq_false_iff_ne, bne_eq_false_iff_eq, Int.toNat_natCast, ge_iff_le, gt_iff_lt, Bool.not_eq_true', Bool.not_eq_false', Int.not_lt, Int.not_le, ne_eq] at *)
  all_goals (try dsimp only [Ty.den, Ty.dflt, RecT] at *)
  all_goals (try simp only [eq4, ne4, eq3, ne3, eq2, ne2, Prod.eta, List.length_cons, List.length_nil, List.length_append, Nat.zero_add] at *)
  all_goals (try simp (disch := omega) only [wrap64] at *)
  all_goals try first | exact leafDraw (by kernel_rfl) | exact Leaf.mk trivial | (refine Leaf.mk ?_; omega) | (refine Leaf.mk ?_; unfold maxLen; omega)
  refine LoopVC.on (fun i : Nat => [(1, .i .i64 (clockF (l.take i) f)), (5, .i .i64 i)]) (fun _ => []) (fun i => i ≤ l.length) (fun i => l.length - i) 0 rfl (by omega) ?_
  intro i hi
  have hat : i < l.length → clockF (l.take (i + 1)) f = mxZ (clockF (l.take i) f) (l.getD i rec0).2.2.1 := fun h => foldl_at rec0 h
  repeat' (first | ((with_reducible refine Ev.mk ?_); conv => whnf) | (with_reducible refine And.intro ?_ ?_) | (intro h))
  all_goals (try simp only [decide_eq_true_eq, decide_eq_false_iff_not, beq_iff_eq, bne_iff_ne, beq_eq_false_iff_ne, bne_eq_false_iff_eq, Int.toNat_natCast, ge_iff_le, gt_iff_lt, Bool.not_eq_true', Bool.not_eq_false', Int.not_lt, Int.not_le, ne_eq] at *)
  all_goals (try dsimp only [Ty.den, Ty.dflt, RecT] at *)
  all_goals (try simp only [eq4, ne4, eq3, ne3, eq2, ne2, Prod.eta, List.length_cons, List.length_nil, List.length_append, Nat.zero_add] at *)
  all_goals (try simp (disch := omega) only [wrap64] at *)
  all_goals try first | exact leafDraw (by kernel_rfl) | exact Leaf.mk trivial | (refine Leaf.mk ?_; omega) | (refine Leaf.mk ?_; unfold maxLen; omega)
  · refine Leaf.mk (Exists.intro (i + 1) ⟨?_, by omega, by omega⟩)
    rw [hat (by omega)]; rfl
  · refine Leaf.mk (ret1 (show clockF (l.take i) f = clockF l f from ?_))
    rw [List.take_of_length_le (by omega)]
def firstW : List Rec → Int
  | [] => 0
  | r :: l => if checkW r = 0 then firstW l else checkW r
def allF (l : List Rec) : List (List Int) × Int := if firstW l = 0 then (l.map putW, 0) else ([], firstW l)
theorem firstW_at {l : List Rec} {i : Nat} (h : i < l.length) : firstW (l.drop i) = if checkW (l.getD i rec0) = 0 then firstW (l.drop (i + 1)) else checkW (l.getD i rec0) := by
  rw [drop_at rec0 h, firstW]
theorem retA {u v : List (List Int) × Int} (h : u = v) : (some ((u.1, ()), (u.2, ()), ()) : Option ((List (List Int) × Unit) × (Int × Unit) × Unit)) = some ((v.1, ()), (v.2, ()), ()) := by rw [h]
theorem putWF_ne {r : Rec} (h : ¬ (putWF r).2 = 0) : ¬ checkW r = 0 ∧ (putWF r).2 = checkW r := by
  unfold putWF at h ⊢
  by_cases hc : checkW r = 0
  · rw [if_pos hc] at h; exact absurd rfl h
  · rw [if_neg hc]; exact ⟨hc, rfl⟩
def sWAll : PSpec := ⟨[.d RsT], [⟨false, [.d (.slice BT)]⟩, ⟨false, [.d (.int .i64)]⟩], fun x => List.length x.1 ≤ 1000 ∧ ∀ r ∈ x.1, List.length r.2.2.2.1 ≤ 1000 ∧ List.length r.2.2.2.2.2 ≤ 1000, fun x => (((allF x.1).1, ()), ((allF x.1).2, ()), ())⟩
theorem fWAll : FnOk Try.prog 47 := ⟨_, Try.func47, by decide, rfl⟩
theorem pWAll : PSound Try.prog 47 sWAll := by
  refine psound (T := tab) (S := (spOf [(37, sWPut.spec (lsOf []))])) (keep := k47) (by kernel_rfl) tabOk (spCons (pOk pWPut fWPut (by decide) lsNil) spNil) (by kernel_rfl) Try.func47 (by kernel_rfl) (by decide) fun xs hg hp => ?_
  obtain ⟨l, ⟨⟩⟩ := xs
  change List Rec at l
  change l.length ≤ 1000 ∧ ∀ r ∈ l, List.length r.2.2.2.1 ≤ 1000 ∧ List.length r.2.2.2.2.2 ≤ 1000 at hp
  obtain ⟨hp, hr⟩ := hp
  clear hg
  show vfun tab _ k47 Try.f47 [.sl RecT l] [] _
  refine Ev.out ?_
  repeat' (first | ((with_reducible refine Ev.mk ?_); conv => whnf) | (with_reducible refine And.intro ?_ ?_) | (intro h))
  all_goals (try simp only [decide_eq_true_eq, decide_eq_false_iff_not, beq_iff_eq, bne_iff_ne, beq_eq_false_iff_ne, bne_eq_false_iff_eq, Int.toNat_natCast, ge_iff_le, gt_iff_lt, Bool.not_eq_true', Bool.not_eq_false', Int.not_lt, Int.not_le, ne_eq] at *)
  all_goals (try dsimp only [Ty.den, Ty.dflt, RecT, sWPut] at *)
  all_goals (try simp only [eq4, ne4, eq3, ne3, eq2, ne2, Prod.eta, List.length_cons, List.length_nil, List.length_append, Nat.zero_add] at *)
  all_goals (try simp (disch := omega) only [wrap64] at *)
  all_goals try first | exact leafDraw (by kernel_rfl) | exact Leaf.mk trivial | (refine Leaf.mk ?_; omega) | (refine Leaf.mk ?_; unfold maxLen; omega)
  refine LoopVC.weak [(.slot 4, .nil 57 BT)] (fun i : Nat => [(11, .i .i64 i)]) (fun i => [(0, .arr 57 BT ((l.take i).map putW))]) (fun i => i ≤ l.length ∧ firstW l = firstW (l.drop i)) (fun i => l.length - i) 0 (Ev.mk ?_)
  (conv => whnf)
  refine ⟨Leaf.mk rfl, Leaf.mk ?_, ?_⟩
  · exact ⟨by omega, rfl⟩
  intro i ⟨hi, he⟩
  repeat' (first | ((with_reducible refine Ev.mk ?_); conv => whnf) | (with_reducible refine And.intro ?_ ?_) | (intro h))
  all_goals (try simp only [decide_eq_true_eq, decide_eq_false_iff_not, beq_iff_eq, bne_iff_ne, beq_eq_false_iff_ne, bne_eq_false_iff_eq, Int.toNat_natCast, ge_iff_le, gt_iff_lt, Bool.not_eq_true', Bool.not_eq_false', Int.not_lt, Int.not_le, ne_eq] at *)
  all_goals (try dsimp only [Ty.den, Ty.dflt, RecT, sWPut] at *)
  all_goals (try simp only [eq4, ne4, eq3, ne3, eq2, ne2, Prod.eta, List.length_cons, List.length_nil, List.length_append, Nat.zero_add] at *)
  all_goals (try simp (disch := omega) only [wrap64] at *)
  all_goals try first | exact leafDraw (by kernel_rfl) | exact Leaf.mk trivial | (refine Leaf.mk ?_; omega) | (refine Leaf.mk ?_; unfold maxLen; omega)
  all_goals try
    have hri := hr _ (getD_mem rec0 (show i < l.length by omega))
    dsimp only [rec0] at hri
  all_goals have htl : (l.take i).length = i := by rw [List.length_take]; omega
  all_goals first
    | (refine Leaf.mk ?_; omega)
    | (refine Leaf.mk ?_; simp only [List.length_map]; omega)
    | (refine Leaf.mk ?_; simp only [List.length_map]; unfold maxLen; omega)
    | (refine Leaf.mk (retA (u := ([], (putWF (l.getD i rec0)).2)) ?_)
       have hc := putWF_ne (r := l.getD i rec0) ‹_›
       have hf := firstW_at (show i < l.length by omega)
       rw [if_neg hc.1] at hf
       rw [allF, if_neg (by rw [he, hf]; exact hc.1), he, hf, hc.2])
    | (refine Leaf.mk (Exists.intro (i + 1) ⟨?_, ⟨by omega, ?_⟩, by omega⟩)
       · have hc := putWF_zero (r := l.getD i rec0) ‹_›
         rw [take_at rec0 (by omega), List.map_append, List.map_cons, List.map_nil, ← hc.2]; rfl
       · have hc := putWF_zero (r := l.getD i rec0) ‹_›
         rw [he, firstW_at (show i < l.length by omega), if_pos hc.1])
    | (refine Leaf.mk (retA (u := ((l.take i).map putW, 0)) ?_)
       rw [drop_end (by omega)] at he
       rw [allF, if_pos (by rw [he]; rfl), List.take_of_length_le (by omega)])
end Go.Proofs.Ytcgfolhnoggjfaa

set_option linter.unusedVariables false
set_option linter.unusedSimpArgs false
set_option maxRecDepth 8000
set_option maxHeartbeats 4000000
namespace Go.Proofs.Ytcgfolhnoggjfaa
open Go.Eng
def sAwake08 : PSpec := ⟨[], [⟨false, [.d .bool]⟩], fun _ => True, fun _ => ((true, ()), ())⟩
theorem fAwake08 : FnOk Try.prog 36 := ⟨_, Try.func36, by decide, rfl⟩
theorem pAwake08 : PSound Try.prog 36 sAwake08 := by
  refine psound (T := tab) (S := (spOf [(37, sWPut.spec (lsOf [])), (41, sWGet.spec (lsOf [])), (43, sWLive.spec (lsOf [])), (47, sWAll.spec (lsOf [])), (45, sWClock.spec (lsOf [])), (39, sWCheck.spec (lsOf []))])) (keep := k36) (by kernel_rfl) tabOk (spCons (pOk pWPut fWPut (by decide) lsNil) (spCons (pOk pWGet fWGet (by decide) lsNil) (spCons (pOk pWLive fWLive (by decide) lsNil) (spCons (pOk pWAll fWAll (by decide) lsNil) (spCons (pOk pWClock fWClock (by decide) lsNil) (spCons (pOk pWCheck fWCheck (by decide) lsNil) spNil)))))) (by kernel_rfl) Try.func36 (by kernel_rfl) (by decide) fun xs hg hp => ?_
  obtain ⟨⟩ := xs
  show vfun tab _ k36 Try.f36 [] [] _
  refine Ev.out ?_
  repeat' (first | ((with_reducible refine Ev.mk ?_); conv => whnf) | (with_reducible refine And.intro ?_ ?_) | (intro h; first | exact absurd h (by decide +kernel) | skip))
  all_goals first
    | exact Leaf.mk trivial
    | exact leafDraw (by kernel_rfl)
    | (refine Leaf.mk ?_; change _ ∧ _; decide +kernel)
    | (refine Leaf.mk ?_; change (_ : Nat) ≤ _; decide +kernel)
    | (refine Leaf.mk ?_; decide +kernel)
    | exact Leaf.mk rfl
theorem lightP {l : List Rec} {m : Int} (hm : m ≤ 100) (h : lightW l m = true) : l.length ≤ 1000 ∧ ∀ r ∈ l, List.length r.2.2.2.1 ≤ 1000 ∧ List.length r.2.2.2.2.2 ≤ 1000 := by
  have := lightW_of h
  exact ⟨by omega, fun r hr => by have := this.2 r hr; omega⟩
theorem lives_bad {l : List Rec} {i : Nat} {P : Prop} (he : firstW l = firstW (l.drop i)) (h : i < l.length) (hn : ¬ (putWF (l.getD i rec0)).2 = 0) (k : ¬ allF l = ([], (putWF (l.getD i rec0)).2)) : P := by
  have hc := putWF_ne hn
  have hf := firstW_at h
  rw [if_neg hc.1] at hf
  exact absurd (by rw [allF, if_neg (by rw [he, hf]; exact hc.1), he, hf, hc.2]) k
theorem lives_ok {l : List Rec} {i : Nat} (h : i < l.length) (hn : (putWF (l.getD i rec0)).2 = 0) (hl : i < (allF l).1.length) : (allF l).1.getD i [] = (putWF (l.getD i rec0)).1 := by
  have hc := putWF_zero hn
  unfold allF at hl ⊢
  split
  · rw [hc.2]; simp [h]
  · rename_i h9; rw [if_neg h9] at hl; simp at hl
theorem lives_step {l : List Rec} {i : Nat} (he : firstW l = firstW (l.drop i)) (h : i < l.length) (hn : (putWF (l.getD i rec0)).2 = 0) : firstW l = firstW (l.drop (i + 1)) := by
  rw [he, firstW_at h, if_pos (putWF_zero hn).1]
theorem lives_end {l : List Rec} {i : Nat} {P : Prop} (he : firstW l = firstW (l.drop i)) (h : l.length ≤ i) (k : ¬ allF l = (l.map putW, 0)) : P := by
  rw [drop_end h] at he
  exact absurd (by rw [allF, if_pos (by rw [he]; rfl)]) k
def sWalrecLives : PSpec := lawSpec [RsT, .int .i64]
theorem pWalrecLives : PSound Try.prog 10 sWalrecLives := by
  refine psound (T := tab) (S := (spOf [(35, sLightW.spec (lsOf [])), (36, sAwake08.spec (lsOf [])), (43, sWLive.spec (lsOf [])), (44, sWLiveR.spec (lsOf [])), (45, sWClock.spec (lsOf [])), (46, sWClockR.spec (lsOf [])), (47, sWAll.spec (lsOf [])), (38, sWPutR.spec (lsOf []))])) (keep := k10) (by kernel_rfl) tabOk (spCons (pOk pLightW fLightW (by decide) lsNil) (spCons (pOk pAwake08 fAwake08 (by decide) lsNil) (spCons (pOk pWLive fWLive (by decide) lsNil) (spCons (pOk pWLiveR fWLiveR (by decide) lsNil) (spCons (pOk pWClock fWClock (by decide) lsNil) (spCons (pOk pWClockR fWClockR (by decide) lsNil) (spCons (pOk pWAll fWAll (by decide) lsNil) (spCons (pOk pWPutR fWPutR (by decide) lsNil) spNil)))))))) (by kernel_rfl) Try.func10 (by kernel_rfl) (by decide) fun xs hg hp => ?_
  obtain ⟨l, f, ⟨⟩⟩ := xs
  clear hp
  change List Rec at l
  change Int at f
  show vfun tab _ k10 Try.f10 [.sl RecT l, .i .i64 f] [] _
  refine Ev.out ?_
  repeat' (first | ((with_reducible refine Ev.mk ?_); conv => whnf) | (with_reducible refine And.intro ?_ ?_) | (intro h))
  all_goals (try simp only [decide_eq_true_eq, decide_eq_false_iff_not, beq_iff_eq, bne_iff_ne, beq_eq_false_iff_ne, bne_eq_false_iff_eq, Int.toNat_natCast, ge_iff_le, gt_iff_lt, Bool.not_eq_true', Bool.not_eq_false', Int.not_lt, Int.not_le, ne_eq] at *)
  all_goals (try dsimp only [Ty.den, Ty.dflt, RecT, sLightW] at *)
  all_goals (try simp only [eq4, ne4, eq3, ne3, eq2, ne2, Prod.eta, List.length_cons, List.length_nil, List.length_append, Nat.zero_add] at *)
  all_goals (try simp (disch := omega) only [wrap64] at *)
  all_goals try first | exact leafDraw (by kernel_rfl) | exact Leaf.mk trivial | (refine Leaf.mk ?_; omega) | (refine Leaf.mk ?_; unfold maxLen; omega)
  all_goals first
    | exact Leaf.mk trivial
    | exact Leaf.mk rfl
    | exact absurd rfl h
    | skip
  all_goals have hP := lightP (by decide) ‹lightW l 60 = true›
  all_goals try first
    | exact Leaf.mk hP.1
  have hll := live_len l
  refine LoopVC.on (fun i : Nat => [(7, .i .i64 i)]) (fun _ => []) (fun i => i ≤ (liveF l).length) (fun i => (liveF l).length - i) 0 rfl (by omega) ?_
  intro i hi
  repeat' (first | ((with_reducible refine Ev.mk ?_); conv => whnf) | (with_reducible refine And.intro ?_ ?_) | (intro h))
  all_goals (try simp only [decide_eq_true_eq, decide_eq_false_iff_not, beq_iff_eq, bne_iff_ne, beq_eq_false_iff_ne, bne_eq_false_iff_eq, Int.toNat_natCast, ge_iff_le, gt_iff_lt, Bool.not_eq_true', Bool.not_eq_false', Int.not_lt, Int.not_le, ne_eq] at *)
  all_goals (try dsimp only [Ty.den, Ty.dflt, RecT, sWLive, sWLiveR, sWAll] at *)
  all_goals (try simp only [eq4, ne4, eq3, ne3, eq2, ne2, Prod.eta, List.length_cons, List.length_nil, List.length_append, Nat.zero_add] at *)
  all_goals (try simp (disch := omega) only [wrap64] at *)
  all_goals try first | exact leafDraw (by kernel_rfl) | exact Leaf.mk trivial | (refine Leaf.mk ?_; omega) | (refine Leaf.mk ?_; unfold maxLen; omega)
  all_goals first
    | exact Leaf.mk trivial
    | exact Leaf.mk rfl
    | exact absurd rfl h
    | skip
  all_goals first
    | exact Leaf.mk ⟨i + 1, rfl, by omega, by omega⟩
    | exact Leaf.mk hP
    | exact absurd trivial ‹¬ True›
    | (exfalso; omega)
    | skip
  refine LoopVC.on (fun i : Nat => [(10, .i .i64 i)]) (fun _ => []) (fun i => i ≤ l.length ∧ firstW l = firstW (l.drop i)) (fun i => l.length - i) 0 rfl ⟨by omega, rfl⟩ ?_
  intro i ⟨hi, he⟩
  repeat' (first | ((with_reducible refine Ev.mk ?_); conv => whnf) | (with_reducible refine And.intro ?_ ?_) | (intro h))
  all_goals (try simp only [decide_eq_true_eq, decide_eq_false_iff_not, beq_iff_eq, bne_iff_ne, beq_eq_false_iff_ne, bne_eq_false_iff_eq, Int.toNat_natCast, ge_iff_le, gt_iff_lt, Bool.not_eq_true', Bool.not_eq_false', Int.not_lt, Int.not_le, ne_eq] at *)
  all_goals (try dsimp only [Ty.den, Ty.dflt, RecT, sWAll, sWPutR] at *)
  all_goals (try simp only [eq4, ne4, eq3, ne3, eq2, ne2, Prod.eta, List.length_cons, List.length_nil, List.length_append, Nat.zero_add] at *)
  all_goals (try simp (disch := omega) only [wrap64] at *)
  all_goals try first | exact leafDraw (by kernel_rfl) | exact Leaf.mk trivial | (refine Leaf.mk ?_; omega) | (refine Leaf.mk ?_; unfold maxLen; omega)
  all_goals first
    | exact Leaf.mk trivial
    | exact Leaf.mk rfl
    | exact absurd rfl h
    | skip
  all_goals first
    | (refine Leaf.mk (show _ ∧ _ from ?_)
       have := hP.2 _ (getD_mem rec0 (show i < l.length by omega))
       dsimp only [rec0] at this
       omega)
    | (exfalso; omega)
    | skip
  · exact lives_bad he (by omega) ‹_› (fun e => ‹¬ (((allF l).1.length : Nat) : Int) = 0› (by rw [e]; rfl))
  · exact lives_bad he (by omega) ‹_› (fun e => ‹¬ (allF l).2 = _› (congrArg (·.2) e))
  · exact absurd (congrArg strOfBytes (lives_ok (show i < l.length by omega) ‹(putWF _).2 = 0› (by omega))) ‹¬ strOfBytes _ = strOfBytes _›
  · exact Leaf.mk ⟨i + 1, rfl, ⟨by omega, lives_step he (by omega) ‹_›⟩, by omega⟩
  · exact Leaf.mk ⟨i + 1, rfl, ⟨by omega, lives_step he (by omega) ‹_›⟩, by omega⟩
  · exact lives_end he (by omega) (fun e => by have := congrArg (fun p => p.1.length) e; simp only [List.length_map] at this; omega)
  · exact lives_end he (by omega) (fun e => ‹¬ (allF l).2 = 0› (congrArg (·.2) e))
end Go.Proofs.Ytcgfolhnoggjfaa
