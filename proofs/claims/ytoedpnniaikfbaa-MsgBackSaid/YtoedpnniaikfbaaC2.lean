import Derived.Test.YtoedpnniaikfbaaC1



set_option linter.unusedVariables false
set_option linter.unusedSimpArgs false
namespace Go.Proofs.Ytoedpnniaikfbaa
open Go.Eng
abbrev ver0 : Ver := (0, 0, false, [])
def inB (n : Int) : Bool := decide (0 ≤ n ∧ n ≤ 1099511627776)
def sIn : PSpec := ⟨[.d (.int .i64)], [⟨false, [.d .bool]⟩], fun _ => True, fun x => ((inB x.1, ()), ())⟩
theorem fIn : FnOk Try.prog 135 := ⟨_, Try.func135, by decide, rfl⟩
theorem pIn : PSound Try.prog 135 sIn := by
  refine psound (T := tab) (S := (spOf [])) (keep := k135) (by kernel_rfl) tabOk spNil (by kernel_rfl) Try.func135 (by kernel_rfl) (by decide) fun xs hg hp => ?_
  obtain ⟨n, ⟨⟩⟩ := xs
  change Int at n
  show vfun tab _ k135 Try.f135 [.i .i64 n] [] _
  refine Ev.out ?_
  repeat' (first | ((with_reducible refine Ev.mk ?_); conv => whnf) | (with_reducible refine And.intro ?_ ?_) | (intro h))
  all_goals (try simp only [decide_eq_true_eq, decide_eq_false_iff_not, beq_iff_eq, bne_iff_ne, beq_eq_false_iff_ne, bne_eq_false_iff_eq, Int.toNat_natCast, ge_iff_le, gt_iff_lt, Bool.not_eq_true', Bool.not_eq_false', Int.not_lt, Int.not_le, ne_eq] at *)
  all_goals (try dsimp only [Ty.den, Ty.dflt, VerT] at *)
  all_goals (try simp only [eq4, ne4, eq3, ne3, eq2, ne2, Prod.eta, List.length_cons, List.length_nil, List.length_append, Nat.zero_add] at *)
  all_goals (try simp (disch := omega) only [wrap64] at *)
  all_goals
    refine Leaf.mk (ret1 (show _ = inB n from ?_))
    simp only [inB]
    first
    | (rw [decide_eq_false (p := 0 ≤ n ∧ n ≤ 1099511627776) (by omega)]; done)
    | (congr 1; simp only [eq_iff_iff]; omega)
def verC (v : Ver) : Int := if 24 < v.2.2.2.length then 5 else if v.2.2.1 = true ∧ v.2.2.2 ≠ [] then 4 else if inB v.1 = true ∧ inB v.2.1 = true then 0 else 9
def sVersion : PSpec := ⟨[.d VerT], [⟨false, [.d (.int .i64)]⟩], fun _ => True, fun x => ((verC x.1, ()), ())⟩
theorem fVersion : FnOk Try.prog 90 := ⟨_, Try.func90, by decide, rfl⟩
theorem pVersion : PSound Try.prog 90 sVersion := by
  refine psound (T := tab) (S := (spOf [(135, sIn.spec (lsOf []))])) (keep := k90) (by kernel_rfl) tabOk (spCons (pOk pIn fIn (by decide) lsNil) spNil) (by kernel_rfl) Try.func90 (by kernel_rfl) (by decide) fun xs hg hp => ?_
  obtain ⟨⟨txn, ts, gone, val⟩, ⟨⟩⟩ := xs
  obtain ⟨⟨hg1, hg2, -, hl⟩, -⟩ := hg
  change List UInt8 at val
  change Int at txn
  change Int at ts
  change Bool at gone
  change val.length ≤ maxLen at hl
  have hl := len63 hl
  show vfun tab _ k90 Try.f90 [.agg [.i .i64 txn, .i .i64 ts, .b gone, .s val]] [] _
  refine Ev.out ?_
  repeat' (first | ((with_reducible refine Ev.mk ?_); conv => whnf) | (with_reducible refine And.intro ?_ ?_) | (intro h))
  all_goals (try simp only [decide_eq_true_eq, decide_eq_false_iff_not, beq_iff_eq, bne_iff_ne, beq_eq_false_iff_ne, bne_eq_false_iff_eq, Int.toNat_natCast, ge_iff_le, gt_iff_lt, Bool.not_eq_true', Bool.not_eq_false', Int.not_lt, Int.not_le, ne_eq] at *)
  all_goals (try dsimp only [Ty.den, Ty.dflt, VerT, sIn] at *)
  all_goals (try simp only [eq4, ne4, eq3, ne3, eq2, ne2, Prod.eta, List.length_cons, List.length_nil, List.length_append, Nat.zero_add] at *)
  all_goals (try simp (disch := omega) only [wrap64] at *)
  all_goals try first | exact leafDraw (by kernel_rfl) | exact Leaf.mk trivial | (refine Leaf.mk ?_; omega) | (refine Leaf.mk ?_; unfold maxLen; omega)
  all_goals
    refine Leaf.mk (ret1 (show (_ : Int) = verC (txn, ts, gone, val) from ?_))
    simp only [verC]
    first
    | (rw [if_pos (show 24 < val.length by omega)]; done)
    | (rw [if_neg (show ¬ 24 < val.length by omega)]; simp_all)
def ordered1 (v : Ver) : Bool := v.2.1 == 0
def lOrdered1 : LSpec := ⟨VerT, .bool, [], fun v _ => ordered1 v⟩
theorem fOrdered1 : FnOk Try.prog 137 := ⟨_, Try.func137, by decide, rfl⟩
theorem pOrdered1 : PSound Try.prog 137 lOrdered1.p := by
  refine psound (T := tab) (S := (spOf [])) (keep := k137) (by kernel_rfl) tabOk spNil (by kernel_rfl) Try.func137 (by kernel_rfl) (by decide) fun xs hg hp => ?_
  obtain ⟨⟨txn, ts, gone, val⟩, ⟨⟩⟩ := xs
  show vfun tab _ k137 Try.f137 [.agg [.i .i64 txn, .i .i64 ts, .b gone, .s val]] [] _
  refine Ev.out ?_
  repeat' (first | ((with_reducible refine Ev.mk ?_); conv => whnf) | (with_reducible refine And.intro ?_ ?_) | (intro h))
  exact Leaf.mk rfl
def firstZ (xs : List Ver) : Nat := if idxF ordered1 xs 0 < 0 then xs.length else (idxF ordered1 xs 0).toNat
def OrdA (xs : List Ver) (n : Nat) : Prop := ∀ j, j < n → 1 ≤ j → (xs.getD (j - 1) ver0).2.1 ≤ (xs.getD j ver0).2.1
def OrdB : List Ver → List Int → Prop
  | [], _ => True
  | v :: r, l => v.2.1 = 0 ∧ v.1 ∉ l ∧ OrdB r (v.1 :: l)
instance : ∀ (xs : List Ver) (l : List Int), Decidable (OrdB xs l)
  | [], _ => .isTrue trivial
  | v :: r, l => by
    have := instDecidableOrdB r (v.1 :: l)
    unfold OrdB
    exact inferInstance
instance (xs : List Ver) (n : Nat) : Decidable (OrdA xs n) := by unfold OrdA; exact inferInstance
def ordered (xs : List Ver) : Bool := decide (OrdA xs (firstZ xs) ∧ OrdB (xs.drop (firstZ xs)) [])
def sOrdered : PSpec := ⟨[.d (.slice VerT)], [⟨false, [.d .bool]⟩], fun _ => True, fun x => ((ordered x.1, ()), ())⟩
theorem OrdB_at {xs : List Ver} {m : Nat} {l : List Int} (h : m < xs.length) : OrdB (xs.drop m) l ↔ (xs.getD m ver0).2.1 = 0 ∧ (xs.getD m ver0).1 ∉ l ∧ OrdB (xs.drop (m + 1)) ((xs.getD m ver0).1 :: l) := by
  rw [drop_at ver0 h, OrdB]
theorem OrdA_le {xs : List Ver} {n i : Nat} (h : OrdA xs i) (hn : n ≤ i) : OrdA xs n := fun j hj h1 => h j (by omega) h1
theorem fOrdered : FnOk Try.prog 91 := ⟨_, Try.func91, by decide, rfl⟩
theorem pOrdered : PSound Try.prog 91 sOrdered := by
  refine psound (T := tab) (S := (spOf [(136, sIndexFunc.spec (lsOf [(137, lOrdered1)]))])) (keep := k91) (by kernel_rfl) tabOk (spCons (pOk pIndexFunc fIndexFunc (by decide) ((lsCons ⟨pOrdered1, fOrdered1⟩ lsNil))) spNil) (by kernel_rfl) Try.func91 (by kernel_rfl) (by decide) fun xs hg hp => ?_
  obtain ⟨xs, ⟨⟩⟩ := xs
  obtain ⟨⟨hl, hx⟩, -⟩ := hg
  change List Ver at xs
  change xs.length ≤ _ at hl
  have hl := len63 hl
  clear hp
  have hz := idxF_pos ordered1 xs 0
  show vfun tab _ k91 Try.f91 [.sl VerT xs] [] _
  refine Ev.out ?_
  repeat' (first | ((with_reducible refine Ev.mk ?_); conv => whnf) | (with_reducible refine And.intro ?_ ?_) | (intro h))
  all_goals (try simp only [decide_eq_true_eq, decide_eq_false_iff_not, beq_iff_eq, bne_iff_ne, beq_eq_false_iff_ne, bne_eq_false_iff_eq, Int.toNat_natCast, ge_iff_le, gt_iff_lt, Bool.not_eq_true', Bool.not_eq_false', Int.not_lt, Int.not_le, ne_eq] at *)
  all_goals (try dsimp only [Ty.den, Ty.dflt, VerT, sIndexFunc] at *)
  all_goals (try simp only [eq4, ne4, eq3, ne3, eq2, ne2, Prod.eta, List.length_cons, List.length_nil, List.length_append, Nat.zero_add] at *)
  all_goals (try simp (disch := omega) only [wrap64] at *)
  all_goals try first | exact leafDraw (by kernel_rfl) | exact Leaf.mk trivial | (refine Leaf.mk ?_; omega) | (refine Leaf.mk ?_; unfold maxLen; omega)
  all_goals
    obtain ⟨n, hn⟩ : ∃ n : Nat, firstZ xs = n := ⟨_, rfl⟩
    have hle : n ≤ xs.length := by rw [← hn]; unfold firstZ; split <;> omega
  · have h1 : xs.length = n := by rw [← hn]; exact (if_pos h).symm
    refine LoopVC.on (fun i : Nat => [(3, .i .i64 n), (4, .i .i64 i)]) (fun _ => []) (fun i => 1 ≤ i ∧ OrdA xs i) (fun i => n - i) 1 (by rw [← h1]; rfl) ⟨by omega, fun j hj hj1 => by omega⟩ ?_
    intro i ⟨hi, he⟩
    repeat' (first | ((with_reducible refine Ev.mk ?_); conv => whnf) | (with_reducible refine And.intro ?_ ?_) | (intro h))
    all_goals (try simp only [decide_eq_true_eq, decide_eq_false_iff_not, beq_iff_eq, bne_iff_ne, beq_eq_false_iff_ne, bne_eq_false_iff_eq, Int.toNat_natCast, ge_iff_le, gt_iff_lt, Bool.not_eq_true', Bool.not_eq_false', Int.not_lt, Int.not_le, ne_eq] at *)
    all_goals (try dsimp only [Ty.den, Ty.dflt, VerT] at *)
    all_goals (try simp only [eq4, ne4, eq3, ne3, eq2, ne2, Prod.eta, List.length_cons, List.length_nil, List.length_append, Nat.zero_add] at *)
    all_goals (try simp (disch := omega) only [wrap64] at *)
    all_goals try first | exact leafDraw (by kernel_rfl) | exact Leaf.mk trivial | (refine Leaf.mk ?_; omega) | (refine Leaf.mk ?_; unfold maxLen; omega)
    all_goals first
      | (refine Leaf.mk (ret1 (show false = ordered xs from ?_))
         rw [eq_comm]; refine decide_eq_false fun hc => ?_
         have := hc.1 i (by omega) (by omega)
         rw [show ((i : Int) - 1).toNat = i - 1 by omega] at h
         dsimp only [ver0] at this
         omega)
      | (refine Leaf.mk ⟨i + 1, rfl, ⟨by omega, fun j hj h1 => ?_⟩, by omega⟩
         by_cases hji : j = i
         · subst hji
           rw [show ((j : Int) - 1).toNat = j - 1 by omega] at h
           exact h
         · exact he j (by omega) h1)
      | skip
    have he := OrdA_le he (show n ≤ i by omega)
    rw [List.take_length]
    obtain ⟨D, hD⟩ : ∃ D, xs.drop n = D := ⟨_, rfl⟩
    rw [hD]
    have hDl : D.length ≤ 9223372036854775807 := by rw [← hD]; simp; omega
    refine LoopVC.on (fun a : Nat × List (Int × Bool) => [(36, .i .i64 a.1)]) (fun a => [(0, .map (.int .i64) .bool a.2)]) (fun a => a.1 ≤ D.length ∧ ∃ s : List Int, (∀ c, mapGet (.int .i64) c false a.2 = true ↔ c ∈ s) ∧ (ordered xs = true ↔ OrdB (D.drop a.1) s)) (fun a => D.length - a.1) (0, []) rfl ⟨by simp, [], fun c => by simp [mapGet], ?_⟩ ?_
    · simp only [ordered, decide_eq_true_eq, hn, hD, he, true_and, List.drop_zero]
    intro ⟨m, l⟩ ⟨hm, s, hs, ho⟩
    dsimp only at hm hs ho ⊢
    repeat' (first | ((with_reducible refine Ev.mk ?_); conv => whnf) | (with_reducible refine And.intro ?_ ?_) | (intro h))
    all_goals (try simp only [decide_eq_true_eq, decide_eq_false_iff_not, beq_iff_eq, bne_iff_ne, beq_eq_false_iff_ne, bne_eq_false_iff_eq, Int.toNat_natCast, ge_iff_le, gt_iff_lt, Bool.not_eq_true', Bool.not_eq_false', Int.not_lt, Int.not_le, ne_eq] at *)
    all_goals (try dsimp only [Ty.den, Ty.dflt, VerT] at *)
    all_goals (try simp only [eq4, ne4, eq3, ne3, eq2, ne2, Prod.eta, List.length_cons, List.length_nil, List.length_append, Nat.zero_add] at *)
    all_goals (try simp (disch := omega) only [wrap64] at *)
    all_goals try first | exact leafDraw (by kernel_rfl) | exact Leaf.mk trivial | (refine Leaf.mk ?_; omega) | (refine Leaf.mk ?_; unfold maxLen; omega)
    change m ≤ D.length at hm
    all_goals first
      | (rw [drop_end (show D.length ≤ m by omega)] at ho
         exact Leaf.mk (ret1 (show true = ordered xs from (ho.2 trivial).symm)))
      | (rw [OrdB_at (by omega)] at ho
         refine Leaf.mk (ret1 (show false = ordered xs from ?_))
         rw [eq_comm, ← Bool.not_eq_true, ho]
         intro hc
         first | exact h hc.1 | exact hc.2.1 ((hs _).1 (by assumption)))
      | (rw [OrdB_at (by omega)] at ho
         refine Leaf.mk ⟨(m + 1, _), rfl, ⟨by show m + 1 ≤ _; omega, (D.getD m ver0).1 :: s, fun c => ?_, ?_⟩, by show _ - (m + 1) < _; omega⟩
         · show mapGet (.int .i64) c false (mapPut (.int .i64) (D.getD m ver0).1 true l) = true ↔ _
           rw [mapGet_put keyEq_int, List.mem_cons]
           split
           · rename_i hk; simp [(keyEq_int _ _).1 hk]
           · rename_i hk
             rw [keyEq_int] at hk
             rw [hs]
             exact ⟨Or.inr, fun hh => hh.elim (fun e => absurd e hk) id⟩
         · rw [ho]
           refine ⟨fun hc => hc.2.2, fun hc => ⟨h, fun hin => ?_, hc⟩⟩
           have hq := (hs _).2 hin
           exact Bool.noConfusion (hq.symm.trans ‹mapGet (.int .i64) _ false l = false›))
  · have h1 : idxF ordered1 xs 0 = n := by rw [← hn]; show _ = ((if idxF ordered1 xs 0 < 0 then xs.length else (idxF ordered1 xs 0).toNat : Nat) : Int); rw [if_neg (show ¬ idxF ordered1 xs 0 < 0 from Int.not_lt.2 h)]; have h : 0 ≤ idxF ordered1 xs 0 := h; omega
    refine LoopVC.on (fun i : Nat => [(3, .i .i64 n), (4, .i .i64 i)]) (fun _ => []) (fun i => 1 ≤ i ∧ OrdA xs i) (fun i => n - i) 1 (by rw [← h1]; rfl) ⟨by omega, fun j hj hj1 => by omega⟩ ?_
    intro i ⟨hi, he⟩
    repeat' (first | ((with_reducible refine Ev.mk ?_); conv => whnf) | (with_reducible refine And.intro ?_ ?_) | (intro h))
    all_goals (try simp only [decide_eq_true_eq, decide_eq_false_iff_not, beq_iff_eq, bne_iff_ne, beq_eq_false_iff_ne, bne_eq_false_iff_eq, Int.toNat_natCast, ge_iff_le, gt_iff_lt, Bool.not_eq_true', Bool.not_eq_false', Int.not_lt, Int.not_le, ne_eq] at *)
    all_goals (try dsimp only [Ty.den, Ty.dflt, VerT] at *)
    all_goals (try simp only [eq4, ne4, eq3, ne3, eq2, ne2, Prod.eta, List.length_cons, List.length_nil, List.length_append, Nat.zero_add] at *)
    all_goals (try simp (disch := omega) only [wrap64] at *)
    all_goals try first | exact leafDraw (by kernel_rfl) | exact Leaf.mk trivial | (refine Leaf.mk ?_; omega) | (refine Leaf.mk ?_; unfold maxLen; omega)
    all_goals first
      | (refine Leaf.mk (ret1 (show false = ordered xs from ?_))
         rw [eq_comm]; refine decide_eq_false fun hc => ?_
         have := hc.1 i (by omega) (by omega)
         rw [show ((i : Int) - 1).toNat = i - 1 by omega] at h
         dsimp only [ver0] at this
         omega)
      | (refine Leaf.mk ⟨i + 1, rfl, ⟨by omega, fun j hj h1 => ?_⟩, by omega⟩
         by_cases hji : j = i
         · subst hji
           rw [show ((j : Int) - 1).toNat = j - 1 by omega] at h
           exact h
         · exact he j (by omega) h1)
      | skip
    have he := OrdA_le he (show n ≤ i by omega)
    rw [List.take_length]
    obtain ⟨D, hD⟩ : ∃ D, xs.drop n = D := ⟨_, rfl⟩
    rw [hD]
    have hDl : D.length ≤ 9223372036854775807 := by rw [← hD]; simp; omega
    refine LoopVC.on (fun a : Nat × List (Int × Bool) => [(36, .i .i64 a.1)]) (fun a => [(0, .map (.int .i64) .bool a.2)]) (fun a => a.1 ≤ D.length ∧ ∃ s : List Int, (∀ c, mapGet (.int .i64) c false a.2 = true ↔ c ∈ s) ∧ (ordered xs = true ↔ OrdB (D.drop a.1) s)) (fun a => D.length - a.1) (0, []) rfl ⟨by simp, [], fun c => by simp [mapGet], ?_⟩ ?_
    · simp only [ordered, decide_eq_true_eq, hn, hD, he, true_and, List.drop_zero]
    intro ⟨m, l⟩ ⟨hm, s, hs, ho⟩
    dsimp only at hm hs ho ⊢
    repeat' (first | ((with_reducible refine Ev.mk ?_); conv => whnf) | (with_reducible refine And.intro ?_ ?_) | (intro h))
    all_goals (try simp only [decide_eq_true_eq, decide_eq_false_iff_not, beq_iff_eq, bne_iff_ne, beq_eq_false_iff_ne, bne_eq_false_iff_eq, Int.toNat_natCast, ge_iff_le, gt_iff_lt, Bool.not_eq_true', Bool.not_eq_false', Int.not_lt, Int.not_le, ne_eq] at *)
    all_goals (try dsimp only [Ty.den, Ty.dflt, VerT] at *)
    all_goals (try simp only [eq4, ne4, eq3, ne3, eq2, ne2, Prod.eta, List.length_cons, List.length_nil, List.length_append, Nat.zero_add] at *)
    all_goals (try simp (disch := omega) only [wrap64] at *)
    all_goals try first | exact leafDraw (by kernel_rfl) | exact Leaf.mk trivial | (refine Leaf.mk ?_; omega) | (refine Leaf.mk ?_; unfold maxLen; omega)
    change m ≤ D.length at hm
    all_goals first
      | (rw [drop_end (show D.length ≤ m by omega)] at ho
         exact Leaf.mk (ret1 (show true = ordered xs from (ho.2 trivial).symm)))
      | (rw [OrdB_at (by omega)] at ho
         refine Leaf.mk (ret1 (show false = ordered xs from ?_))
         rw [eq_comm, ← Bool.not_eq_true, ho]
         intro hc
         first | exact h hc.1 | exact hc.2.1 ((hs _).1 (by assumption)))
      | (rw [OrdB_at (by omega)] at ho
         refine Leaf.mk ⟨(m + 1, _), rfl, ⟨by show m + 1 ≤ _; omega, (D.getD m ver0).1 :: s, fun c => ?_, ?_⟩, by show _ - (m + 1) < _; omega⟩
         · show mapGet (.int .i64) c false (mapPut (.int .i64) (D.getD m ver0).1 true l) = true ↔ _
           rw [mapGet_put keyEq_int, List.mem_cons]
           split
           · rename_i hk; simp [(keyEq_int _ _).1 hk]
           · rename_i hk
             rw [keyEq_int] at hk
             rw [hs]
             exact ⟨Or.inr, fun hh => hh.elim (fun e => absurd e hk) id⟩
         · rw [ho]
           refine ⟨fun hc => hc.2.2, fun hc => ⟨h, fun hin => ?_, hc⟩⟩
           have hq := (hs _).2 hin
           exact Bool.noConfusion (hq.symm.trans ‹mapGet (.int .i64) _ false l = false›))
end Go.Proofs.Ytoedpnniaikfbaa
