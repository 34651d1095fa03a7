import Derived.Test.YtkmfjlfejdoehaaQ6
import Derived.Test.YtkmfjlfejdoehaaEng4
import Derived.Test.YtkmfjlfejdoehaaEng5
import Derived.Test.YtkmfjlfejdoehaaTab
import Derived.Shelf.Sort.Plain
import Derived.Test.YtkmfjlfejdoehaaProg
/- Texts, one behind the other. -/
set_option linter.unusedVariables false
set_option linter.unusedSimpArgs false
namespace Go.Proofs.Ytkmfjlfejdoehaa
open Go.Eng
abbrev ver0 : Ver := (0, 0, false, [])
def inB (n : Int) : Bool := decide (0 ≤ n ∧ n ≤ 1099511627776)
def sIn : PSpec := ⟨[.d (.int .i64)], [⟨false, [.d .bool]⟩], fun _ => True, fun x => ((inB x.1, ()), ())⟩
theorem fIn : FnOk Try.prog 168 := ⟨_, Try.func168, by decide, rfl⟩
theorem pIn : PSound Try.prog 168 sIn := by
  refine psound (T := tab) (S := (spOf [])) (keep := k168) (by kernel_rfl) tabOk spNil (by kernel_rfl) Try.func168 (by kernel_rfl) (by decide) fun xs hg hp => ?_
  obtain ⟨n, ⟨⟩⟩ := xs
  change Int at n
  show vfun tab _ k168 Try.f168 [.i .i64 n] [] _
  refine Ev.out ?_
  repeat' (first | ((with_reducible refine Ev.mk ?_); conv => whnf) | (with_reducible refine And.intro ?_ ?_) | (intro h))
  all_goals (try simp only [decide_eq_true_eq, decide_eq_false_iff_not, beq_iff_eq, bne_iff_ne, beq_eq_false_iff_ne, bne_eq_false_iff_eq, Int.toNat_natCast, ge_iff_le, gt_iff_lt, Bool.not_eq_true', Bool.not_eq_false', Int.not_lt, Int.not_le, ne_eq] at *)
  all_goals (try dsimp only [Ty.den, Ty.dflt, VerT] at *)
  all_goals (try simp only [eq4, ne4, eq3, ne3, eq2, ne2, Prod.eta, List.length_cons, List.length_nil, List.length_append, Nat.zero_add] at *)
  all_goals (try simp (disch := omega) only [wrap64] at *)
  all_goals
    refine Leaf.mk (ret1 (show _ = inB n from ?_))
    simp only [inB]
    first
    | (rw [decide_eq_false (p := 0 ≤ n ∧ n ≤ 1099511627776) (by omega)]; done)
    | (congr 1; simp only [eq_iff_iff]; omega)
def verC (v : Ver) : Int := if 24 < v.2.2.2.length then 5 else if v.2.2.1 = true ∧ v.2.2.2 ≠ [] then 4 else if inB v.1 = true ∧ inB v.2.1 = true then 0 else 9
def sVersion : PSpec := ⟨[.d VerT], [⟨false, [.d (.int .i64)]⟩], fun _ => True, fun x => ((verC x.1, ()), ())⟩
theorem fVersion : FnOk Try.prog 140 := ⟨_, Try.func140, by decide, rfl⟩
theorem pVersion : PSound Try.prog 140 sVersion := by
  refine psound (T := tab) (S := (spOf [(168, sIn.spec (lsOf []))])) (keep := k140) (by kernel_rfl) tabOk (spCons (pOk pIn fIn (by decide) lsNil) spNil) (by kernel_rfl) Try.func140 (by kernel_rfl) (by decide) fun xs hg hp => ?_
  obtain ⟨⟨txn, ts, gone, val⟩, ⟨⟩⟩ := xs
  obtain ⟨⟨hg1, hg2, -, hl⟩, -⟩ := hg
  change List UInt8 at val
  change Int at txn
  change Int at ts
  change Bool at gone
  change val.length ≤ maxLen at hl
  have hl := len63 hl
  show vfun tab _ k140 Try.f140 [.agg [.i .i64 txn, .i .i64 ts, .b gone, .s val]] [] _
  refine Ev.out ?_
  repeat' (first | ((with_reducible refine Ev.mk ?_); conv => whnf) | (with_reducible refine And.intro ?_ ?_) | (intro h))
  all_goals (try simp only [decide_eq_true_eq, decide_eq_false_iff_not, beq_iff_eq, bne_iff_ne, beq_eq_false_iff_ne, bne_eq_false_iff_eq, Int.toNat_natCast, ge_iff_le, gt_iff_lt, Bool.not_eq_true', Bool.not_eq_false', Int.not_lt, Int.not_le, ne_eq] at *)
  all_goals (try dsimp only [Ty.den, Ty.dflt, VerT, sIn] at *)
  all_goals (try simp only [eq4, ne4, eq3, ne3, eq2, ne2, Prod.eta, List.length_cons, List.length_nil, List.length_append, Nat.zero_add] at *)
  all_goals (try simp (disch := omega) only [wrap64] at *)
  all_goals try first | exact leafDraw (by kernel_rfl) | exact Leaf.mk trivial | (refine Leaf.mk ?_; omega) | (refine Leaf.mk ?_; unfold maxLen; omega)
  all_goals
    refine Leaf.mk (ret1 (show (_ : Int) = verC (txn, ts, gone, val) from ?_))
    simp only [verC]
    first
    | (rw [if_pos (show 24 < val.length by omega)]; done)
    | (rw [if_neg (show ¬ 24 < val.length by omega)]; simp_all)
def ordered1 (v : Ver) : Bool := v.2.1 == 0
def lOrdered1 : LSpec := ⟨VerT, .bool, [], fun v _ => ordered1 v⟩
theorem fOrdered1 : FnOk Try.prog 169 := ⟨_, Try.func169, by decide, rfl⟩
theorem pOrdered1 : PSound Try.prog 169 lOrdered1.p := by
  refine psound (T := tab) (S := (spOf [])) (keep := k169) (by kernel_rfl) tabOk spNil (by kernel_rfl) Try.func169 (by kernel_rfl) (by decide) fun xs hg hp => ?_
  obtain ⟨⟨txn, ts, gone, val⟩, ⟨⟩⟩ := xs
  show vfun tab _ k169 Try.f169 [.agg [.i .i64 txn, .i .i64 ts, .b gone, .s val]] [] _
  refine Ev.out ?_
  repeat' (first | ((with_reducible refine Ev.mk ?_); conv => whnf) | (with_reducible refine And.intro ?_ ?_) | (intro h))
  exact Leaf.mk rfl
def firstZ (xs : List Ver) : Nat := if idxF ordered1 xs 0 < 0 then xs.length else (idxF ordered1 xs 0).toNat
def OrdA (xs : List Ver) (n : Nat) : Prop := ∀ j, j < n → 1 ≤ j → (xs.getD (j - 1) ver0).2.1 ≤ (xs.getD j ver0).2.1
def OrdB : List Ver → List Int → Prop
  | [], _ => True
  | v :: r, l => v.2.1 = 0 ∧ v.1 ∉ l ∧ OrdB r (v.1 :: l)
instance : ∀ (xs : List Ver) (l : List Int), Decidable (OrdB xs l)
  | [], _ => .isTrue trivial
  | v :: r, l => by
    have := instDecidableOrdB r (v.1 :: l)
    unfold OrdB
    exact inferInstance
instance (xs : List Ver) (n : Nat) : Decidable (OrdA xs n) := by unfold OrdA; exact inferInstance
def ordered (xs : List Ver) : Bool := decide (OrdA xs (firstZ xs) ∧ OrdB (xs.drop (firstZ xs)) [])
def sOrdered : PSpec := ⟨[.d (.slice VerT)], [⟨false, [.d .bool]⟩], fun _ => True, fun x => ((ordered x.1, ()), ())⟩
theorem OrdB_at {xs : List Ver} {m : Nat} {l : List Int} (h : m < xs.length) : OrdB (xs.drop m) l ↔ (xs.getD m ver0).2.1 = 0 ∧ (xs.getD m ver0).1 ∉ l ∧ OrdB (xs.drop (m + 1)) ((xs.getD m ver0).1 :: l) := by
  rw [drop_at ver0 h, OrdB]
theorem OrdA_le {xs : List Ver} {n i : Nat} (h : OrdA xs i) (hn : n ≤ i) : OrdA xs n := fun j hj h1 => h j (by omega) h1
theorem fOrdered : FnOk Try.prog 141 := ⟨_, Try.func141, by decide, rfl⟩
theorem pOrdered : PSound Try.prog 141 sOrdered := by
  refine psound (T := tab) (S := (spOf [(136, sIndexFunc.spec (lsOf [(169, lOrdered1)]))])) (keep := k141) (by kernel_rfl) tabOk (spCons (pOk pIndexFunc fIndexFunc (by decide) ((lsCons ⟨pOrdered1, fOrdered1⟩ lsNil))) spNil) (by kernel_rfl) Try.func141 (by kernel_rfl) (by decide) fun xs hg hp => ?_
  obtain ⟨xs, ⟨⟩⟩ := xs
  obtain ⟨⟨hl, hx⟩, -⟩ := hg
  change List Ver at xs
  change xs.length ≤ _ at hl
  have hl := len63 hl
  clear hp
  have hz := idxF_pos ordered1 xs 0
  show vfun tab _ k141 Try.f141 [.sl VerT xs] [] _
  refine Ev.out ?_
  repeat' (first | ((with_reducible refine Ev.mk ?_); conv => whnf) | (with_reducible refine And.intro ?_ ?_) | (intro h))
  all_goals (try simp only [decide_eq_true_eq, decide_eq_false_iff_not, beq_iff_eq, bne_iff_ne, beq_eq_false_iff_ne, bne_eq_false_iff_eq, Int.toNat_natCast, ge_iff_le, gt_iff_lt, Bool.not_eq_true', Bool.not_eq_false', Int.not_lt, Int.not_le, ne_eq] at *)
  all_goals (try dsimp only [Ty.den, Ty.dflt, VerT, sIndexFunc] at *)
  all_goals (try simp only [eq4, ne4, eq3, ne3, eq2, ne2, Prod.eta, List.length_cons, List.length_nil, List.length_append, Nat.zero_add] at *)
  all_goals (try simp (disch := omega) only [wrap64] at *)
  all_goals try first | exact leafDraw (by kernel_rfl) | exact Leaf.mk trivial | (refine Leaf.mk ?_; omega) | (refine Leaf.mk ?_; unfold maxLen; omega)
  all_goals
    obtain ⟨n, hn⟩ : ∃ n : Nat, firstZ xs = n := ⟨_, rfl⟩
    have hle : n ≤ xs.length := by rw [← hn]; unfold firstZ; split <;> omega
  · have h1 : xs.length = n := by rw [← hn]; exact (if_pos h).symm
    refine LoopVC.on (fun i : Nat => [(3, .i .i64 n), (4, .i .i64 i)]) (fun _ => []) (fun i => 1 ≤ i ∧ OrdA xs i) (fun i => n - i) 1 (by rw [← h1]; rfl) ⟨by omega, fun j hj hj1 => by omega⟩ ?_
    intro i ⟨hi, he⟩
    repeat' (first | ((with_reducible refine Ev.mk ?_); conv => whnf) | (with_reducible refine And.intro ?_ ?_) | (intro h))
    all_goals (try simp only [decide_eq_true_eq, decide_eq_false_iff_not, beq_iff_eq, bne_iff_ne, beq_eq_false_iff_ne, bne_eq_false_iff_eq, Int.toNat_natCast, ge_iff_le, gt_iff_lt, Bool.not_eq_true', Bool.not_eq_false', Int.not_lt, Int.not_le, ne_eq] at *)
    all_goals (try dsimp only [Ty.den, Ty.dflt, VerT] at *)
    all_goals (try simp only [eq4, ne4, eq3, ne3, eq2, ne2, Prod.eta, List.length_cons, List.length_nil, List.length_append, Nat.zero_add] at *)
    all_goals (try simp (disch := omega) only [wrap64] at *)
    all_goals try first | exact leafDraw (by kernel_rfl) | exact Leaf.mk trivial | (refine Leaf.mk ?_; omega) | (refine Leaf.mk ?_; unfold maxLen; omega)
    all_goals first
      | (refine Leaf.mk (ret1 (show false = ordered xs from ?_))
         rw [eq_comm]; refine decide_eq_false fun hc => ?_
         have := hc.1 i (by omega) (by omega)
         rw [show ((i : Int) - 1).toNat = i - 1 by omega] at h
         dsimp only [ver0] at this
         omega)
      | (refine Leaf.mk ⟨i + 1, rfl, ⟨by omega, fun j hj h1 => ?_⟩, by omega⟩
         by_cases hji : j = i
         · subst hji
           rw [show ((j : Int) - 1).toNat = j - 1 by omega] at h
           exact h
         · exact he j (by omega) h1)
      | skip
    have he := OrdA_le he (show n ≤ i by omega)
    rw [List.take_length]
    obtain ⟨D, hD⟩ : ∃ D, xs.drop n = D := ⟨_, rfl⟩
    rw [hD]
    have hDl : D.length ≤ 9223372036854775807 := by rw [← hD]; simp; omega
    refine LoopVC.on (fun a : Nat × List (Int × Bool) => [(36, .i .i64 a.1)]) (fun a => [(0, .map (.int .i64) .bool a.2)]) (fun a => a.1 ≤ D.length ∧ ∃ s : List Int, (∀ c, mapGet (.int .i64) c false a.2 = true ↔ c ∈ s) ∧ (ordered xs = true ↔ OrdB (D.drop a.1) s)) (fun a => D.length - a.1) (0, []) rfl ⟨by simp, [], fun c => by simp [mapGet], ?_⟩ ?_
    · simp only [ordered, decide_eq_true_eq, hn, hD, he, true_and, List.drop_zero]
    intro ⟨m, l⟩ ⟨hm, s, hs, ho⟩
    dsimp only at hm hs ho ⊢
    repeat' (first | ((with_reducible refine Ev.mk ?_); conv => whnf) | (with_reducible refine And.intro ?_ ?_) | (intro h))
    all_goals (try simp only [decide_eq_true_eq, decide_eq_false_iff_not, beq_iff_eq, bne_iff_ne, beq_eq_false_iff_ne, bne_eq_false_iff_eq, Int.toNat_natCast, ge_iff_le, gt_iff_lt, Bool.not_eq_true', Bool.not_eq_false', Int.not_lt, Int.not_le, ne_eq] at *)
    all_goals (try dsimp only [Ty.den, Ty.dflt, VerT] at *)
    all_goals (try simp only [eq4, ne4, eq3, ne3, eq2, ne2, Prod.eta, List.length_cons, List.length_nil, List.length_append, Nat.zero_add] at *)
    all_goals (try simp (disch := omega) only [wrap64] at *)
    all_goals try first | exact leafDraw (by kernel_rfl) | exact Leaf.mk trivial | (refine Leaf.mk ?_; omega) | (refine Leaf.mk ?_; unfold maxLen; omega)
    change m ≤ D.length at hm
    all_goals first
      | (rw [drop_end (show D.length ≤ m by omega)] at ho
         exact Leaf.mk (ret1 (show true = ordered xs from (ho.2 trivial).symm)))
      | (rw [OrdB_at (by omega)] at ho
         refine Leaf.mk (ret1 (show false = ordered xs from ?_))
         rw [eq_comm, ← Bool.not_eq_true, ho]
         intro hc
         first | exact h hc.1 | exact hc.2.1 ((hs _).1 (by assumption)))
      | (rw [OrdB_at (by omega)] at ho
         refine Leaf.mk ⟨(m + 1, _), rfl, ⟨by show m + 1 ≤ _; omega, (D.getD m ver0).1 :: s, fun c => ?_, ?_⟩, by show _ - (m + 1) < _; omega⟩
         · show mapGet (.int .i64) c false (mapPut (.int .i64) (D.getD m ver0).1 true l) = true ↔ _
           rw [mapGet_put keyEq_int, List.mem_cons]
           split
           · rename_i hk; simp [(keyEq_int _ _).1 hk]
           · rename_i hk
             rw [keyEq_int] at hk
             rw [hs]
             exact ⟨Or.inr, fun hh => hh.elim (fun e => absurd e hk) id⟩
         · rw [ho]
           refine ⟨fun hc => hc.2.2, fun hc => ⟨h, fun hin => ?_, hc⟩⟩
           have hq := (hs _).2 hin
           exact Bool.noConfusion (hq.symm.trans ‹mapGet (.int .i64) _ false l = false›))
  · have h1 : idxF ordered1 xs 0 = n := by rw [← hn]; show _ = ((if idxF ordered1 xs 0 < 0 then xs.length else (idxF ordered1 xs 0).toNat : Nat) : Int); rw [if_neg (show ¬ idxF ordered1 xs 0 < 0 from Int.not_lt.2 h)]; have h : 0 ≤ idxF ordered1 xs 0 := h; omega
    refine LoopVC.on (fun i : Nat => [(3, .i .i64 n), (4, .i .i64 i)]) (fun _ => []) (fun i => 1 ≤ i ∧ OrdA xs i) (fun i => n - i) 1 (by rw [← h1]; rfl) ⟨by omega, fun j hj hj1 => by omega⟩ ?_
    intro i ⟨hi, he⟩
    repeat' (first | ((with_reducible refine Ev.mk ?_); conv => whnf) | (with_reducible refine And.intro ?_ ?_) | (intro h))
    all_goals (try simp only [decide_eq_true_eq, decide_eq_false_iff_not, beq_iff_eq, bne_iff_ne, beq_eq_false_iff_ne, bne_eq_false_iff_eq, Int.toNat_natCast, ge_iff_le, gt_iff_lt, Bool.not_eq_true', Bool.not_eq_false', Int.not_lt, Int.not_le, ne_eq] at *)
    all_goals (try dsimp only [Ty.den, Ty.dflt, VerT] at *)
    all_goals (try simp only [eq4, ne4, eq3, ne3, eq2, ne2, Prod.eta, List.length_cons, List.length_nil, List.length_append, Nat.zero_add] at *)
    all_goals (try simp (disch := omega) only [wrap64] at *)
    all_goals try first | exact leafDraw (by kernel_rfl) | exact Leaf.mk trivial | (refine Leaf.mk ?_; omega) | (refine Leaf.mk ?_; unfold maxLen; omega)
    all_goals first
      | (refine Leaf.mk (ret1 (show false = ordered xs from ?_))
         rw [eq_comm]; refine decide_eq_false fun hc => ?_
         have := hc.1 i (by omega) (by omega)
         rw [show ((i : Int) - 1).toNat = i - 1 by omega] at h
         dsimp only [ver0] at this
         omega)
      | (refine Leaf.mk ⟨i + 1, rfl, ⟨by omega, fun j hj h1 => ?_⟩, by omega⟩
         by_cases hji : j = i
         · subst hji
           rw [show ((j : Int) - 1).toNat = j - 1 by omega] at h
           exact h
         · exact he j (by omega) h1)
      | skip
    have he := OrdA_le he (show n ≤ i by omega)
    rw [List.take_length]
    obtain ⟨D, hD⟩ : ∃ D, xs.drop n = D := ⟨_, rfl⟩
    rw [hD]
    have hDl : D.length ≤ 9223372036854775807 := by rw [← hD]; simp; omega
    refine LoopVC.on (fun a : Nat × List (Int × Bool) => [(36, .i .i64 a.1)]) (fun a => [(0, .map (.int .i64) .bool a.2)]) (fun a => a.1 ≤ D.length ∧ ∃ s : List Int, (∀ c, mapGet (.int .i64) c false a.2 = true ↔ c ∈ s) ∧ (ordered xs = true ↔ OrdB (D.drop a.1) s)) (fun a => D.length - a.1) (0, []) rfl ⟨by simp, [], fun c => by simp [mapGet], ?_⟩ ?_
    · simp only [ordered, decide_eq_true_eq, hn, hD, he, true_and, List.drop_zero]
    intro ⟨m, l⟩ ⟨hm, s, hs, ho⟩
    dsimp only at hm hs ho ⊢
    repeat' (first | ((with_reducible refine Ev.mk ?_); conv => whnf) | (with_reducible refine And.intro ?_ ?_) | (intro h))
    all_goals (try simp only [decide_eq_true_eq, decide_eq_false_iff_not, beq_iff_eq, bne_iff_ne, beq_eq_false_iff_ne, bne_eq_false_iff_eq, Int.toNat_natCast, ge_iff_le, gt_iff_lt, Bool.not_eq_true', Bool.not_eq_false', Int.not_lt, Int.not_le, ne_eq] at *)
    all_goals (try dsimp only [Ty.den, Ty.dflt, VerT] at *)
    all_goals (try simp only [eq4, ne4, eq3, ne3, eq2, ne2, Prod.eta, List.length_cons, List.length_nil, List.length_append, Nat.zero_add] at *)
    all_goals (try simp (disch := omega) only [wrap64] at *)
    all_goals try first | exact leafDraw (by kernel_rfl) | exact Leaf.mk trivial | (refine Leaf.mk ?_; omega) | (refine Leaf.mk ?_; unfold maxLen; omega)
    change m ≤ D.length at hm
    all_goals first
      | (rw [drop_end (show D.length ≤ m by omega)] at ho
         exact Leaf.mk (ret1 (show true = ordered xs from (ho.2 trivial).symm)))
      | (rw [OrdB_at (by omega)] at ho
         refine Leaf.mk (ret1 (show false = ordered xs from ?_))
         rw [eq_comm, ← Bool.not_eq_true, ho]
         intro hc
         first | exact h hc.1 | exact hc.2.1 ((hs _).1 (by assumption)))
      | (rw [OrdB_at (by omega)] at ho
         refine Leaf.mk ⟨(m + 1, _), rfl, ⟨by show m + 1 ≤ _; omega, (D.getD m ver0).1 :: s, fun c => ?_, ?_⟩, by show _ - (m + 1) < _; omega⟩
         · show mapGet (.int .i64) c false (mapPut (.int .i64) (D.getD m ver0).1 true l) = true ↔ _
           rw [mapGet_put keyEq_int, List.mem_cons]
           split
           · rename_i hk; simp [(keyEq_int _ _).1 hk]
           · rename_i hk
             rw [keyEq_int] at hk
             rw [hs]
             exact ⟨Or.inr, fun hh => hh.elim (fun e => absurd e hk) id⟩
         · rw [ho]
           refine ⟨fun hc => hc.2.2, fun hc => ⟨h, fun hin => ?_, hc⟩⟩
           have hq := (hs _).2 hin
           exact Bool.noConfusion (hq.symm.trans ‹mapGet (.int .i64) _ false l = false›))
end Go.Proofs.Ytkmfjlfejdoehaa

set_option linter.unusedVariables false
set_option linter.unusedSimpArgs false
namespace Go.Proofs.Ytkmfjlfejdoehaa
open Go.Eng
def firstBad : List Ver → Int
  | [] => 0
  | v :: r => if verC v = 0 then firstBad r else verC v
def check (s : Stk) : Int := if 16 < s.1.length then 5 else if 8 < s.2.length then 7 else if firstBad s.2 = 0 then (if ordered s.2 = true then 0 else 12) else firstBad s.2
def sCheck : PSpec := ⟨[.d StT], [⟨false, [.d (.int .i64)]⟩], fun _ => True, fun x => ((check x.1, ()), ())⟩
theorem firstBad_at {xs : List Ver} {i : Nat} (h : i < xs.length) : firstBad (xs.drop i) = if verC (xs.getD i ver0) = 0 then firstBad (xs.drop (i + 1)) else verC (xs.getD i ver0) := by
  rw [drop_at ver0 h, firstBad]
theorem fCheck : FnOk Try.prog 113 := ⟨_, Try.func113, by decide, rfl⟩
theorem pCheck : PSound Try.prog 113 sCheck := by
  refine psound (T := tab) (S := (spOf [(140, sVersion.spec (lsOf [])), (141, sOrdered.spec (lsOf []))])) (keep := k113) (by kernel_rfl) tabOk (spCons (pOk pVersion fVersion (by decide) lsNil) (spCons (pOk pOrdered fOrdered (by decide) lsNil) spNil)) (by kernel_rfl) Try.func113 (by kernel_rfl) (by decide) fun xs hg hp => ?_
  obtain ⟨⟨key, xs⟩, ⟨⟩⟩ := xs
  obtain ⟨⟨hk, hl, hx⟩, -⟩ := hg
  change List UInt8 at key
  change List Ver at xs
  change xs.length ≤ _ at hl
  have hl := len63 hl
  clear hp
  show vfun tab _ k113 Try.f113 [.agg [.s key, .sl VerT xs]] [] _
  refine Ev.out ?_
  repeat' (first | ((with_reducible refine Ev.mk ?_); conv => whnf) | (with_reducible refine And.intro ?_ ?_) | (intro h))
  all_goals (try simp only [decide_eq_true_eq, decide_eq_false_iff_not, beq_iff_eq, bne_iff_ne, beq_eq_false_iff_ne, bne_eq_false_iff_eq, Int.toNat_natCast, ge_iff_le, gt_iff_lt, Bool.not_eq_true', Bool.not_eq_false', Int.not_lt, Int.not_le, ne_eq] at *)
  all_goals (try dsimp only [Ty.den, Ty.dflt, VerT, sVersion, sOrdered] at *)
  all_goals (try simp only [eq4, ne4, eq3, ne3, eq2, ne2, Prod.eta, List.length_cons, List.length_nil, List.length_append, Nat.zero_add] at *)
  all_goals (try simp (disch := omega) only [wrap64] at *)
  all_goals try first | exact leafDraw (by kernel_rfl) | exact Leaf.mk trivial | (refine Leaf.mk ?_; omega) | (refine Leaf.mk ?_; unfold maxLen; omega)
  · refine Leaf.mk (ret1 (show (5 : Int) = check (key, xs) from ?_))
    rw [check, if_pos (show 16 < key.length by omega)]
  · refine Leaf.mk (ret1 (show (7 : Int) = check (key, xs) from ?_))
    rw [check, if_neg (show ¬ 16 < key.length by omega), if_pos (show 8 < xs.length by omega)]
  have hC : check (key, xs) = if firstBad xs = 0 then (if ordered xs = true then 0 else 12) else firstBad xs := by
    rw [check, if_neg (show ¬ 16 < key.length by omega), if_neg (show ¬ 8 < xs.length by omega)]
  refine LoopVC.on (fun i : Nat => [(19, .i .i64 i)]) (fun _ => []) (fun i => i ≤ xs.length ∧ firstBad xs = firstBad (xs.drop i)) (fun i => xs.length - i) 0 rfl ⟨by omega, rfl⟩ ?_
  intro i ⟨hi, he⟩
  repeat' (first | ((with_reducible refine Ev.mk ?_); conv => whnf) | (with_reducible refine And.intro ?_ ?_) | (intro h))
  all_goals (try simp only [decide_eq_true_eq, decide_eq_false_iff_not, beq_iff_eq, bne_iff_ne, beq_eq_false_iff_ne, bne_eq_false_iff_eq, Int.toNat_natCast, ge_iff_le, gt_iff_lt, Bool.not_eq_true', Bool.not_eq_false', Int.not_lt, Int.not_le, ne_eq] at *)
  all_goals (try dsimp only [Ty.den, Ty.dflt, VerT, sVersion, sOrdered] at *)
  all_goals (try simp only [eq4, ne4, eq3, ne3, eq2, ne2, Prod.eta, List.length_cons, List.length_nil, List.length_append, Nat.zero_add] at *)
  all_goals (try simp (disch := omega) only [wrap64] at *)
  all_goals try first | exact leafDraw (by kernel_rfl) | exact Leaf.mk trivial | (refine Leaf.mk ?_; omega) | (refine Leaf.mk ?_; unfold maxLen; omega)
  · rw [firstBad_at (by omega), if_neg (show ¬ verC (xs.getD i ver0) = 0 from h)] at he
    refine Leaf.mk (ret1 (show verC (xs.getD i ver0) = check (key, xs) from ?_))
    rw [hC, he, if_neg (show ¬ verC (xs.getD i ver0) = 0 from h)]
  · rw [firstBad_at (by omega), if_pos (show verC (xs.getD i ver0) = 0 from h)] at he
    exact Leaf.mk ⟨i + 1, rfl, ⟨by omega, he⟩, by omega⟩
  · rw [drop_end (by omega)] at he
    refine Leaf.mk (ret1 (show (12 : Int) = check (key, xs) from ?_))
    rw [hC, if_pos (show firstBad xs = 0 from he), if_neg (by rw [h]; simp)]
  · rw [drop_end (by omega)] at he
    refine Leaf.mk (ret1 (show (0 : Int) = check (key, xs) from ?_))
    rw [hC, if_pos (show firstBad xs = 0 from he), if_pos h]
def write (s : Stk) (v : Ver) : Stk :=
  if 0 ≤ idxF (roomP v.1) s.2 0 then (s.1, s.2.set (idxF (roomP v.1) s.2 0).toNat (v.1, 0, v.2.2)) else if s.2.length < 8 then (s.1, s.2 ++ [(v.1, 0, v.2.2)]) else s
end Go.Proofs.Ytkmfjlfejdoehaa

set_option linter.unusedVariables false
set_option linter.unusedSimpArgs false
set_option maxRecDepth 8000
namespace Go.Proofs.Ytkmfjlfejdoehaa
open Go.Eng
def sLeft : MSpec := ⟨[.m RP], [⟨false, [.d (.int .i64)]⟩], fun _ => True, fun x => (((List.length (α := Int) x.1.1 : Nat), ()), x.1, ())⟩
theorem fLeft : FnOk Try.prog 88 := ⟨_, Try.func88, by decide, rfl⟩
theorem pLeft : SpecOk Try.prog 88 sLeft.spec := by
  refine mOk (T := tab) (S := (spOf [])) (keep := k88m) tabOk spNil (by kernel_rfl) Try.func88 (by kernel_rfl) (by kernel_rfl) (by decide) fun xs hg hp => ?_
  obtain ⟨⟨b, e, ⟨⟩⟩, ⟨⟩⟩ := xs
  change List Int at b
  change Int at e
  show vfunM tab _ k88m Try.f88 [.ptr 0 0] [(0, .box [.sl (.int .u8) b, .i .i64 e])] _
  refine Ev.out ?_
  repeat' (first | ((with_reducible refine Ev.mk ?_); conv => whnf) | (with_reducible refine And.intro ?_ ?_) | (intro h))
  all_goals exact Leaf.mk rfl
def sBEqual : PSpec := ⟨[.d BT, .d BT], [⟨false, [.d .bool]⟩], fun _ => True, fun x => ((strOfBytes x.1 == strOfBytes x.2.1, ()), ())⟩
theorem fBEqual : FnOk Try.prog 90 := ⟨_, Try.func90, by decide, rfl⟩
theorem pBEqual : PSound Try.prog 90 sBEqual := by
  refine psound (T := tab) (S := (spOf [])) (keep := k90) (by kernel_rfl) tabOk spNil (by kernel_rfl) Try.func90 (by kernel_rfl) (by decide) fun xs hg hp => ?_
  obtain ⟨xs, ys, ⟨⟩⟩ := xs
  show vfun tab _ k90 Try.f90 [.sl (.int .u8) xs, .sl (.int .u8) ys] [] _
  refine Ev.out ?_
  repeat' (first | ((with_reducible refine Ev.mk ?_); conv => whnf) | (with_reducible refine And.intro ?_ ?_) | (intro h))
  all_goals exact Leaf.mk rfl
def sFlag : PSpec := ⟨[.d .bool], [⟨false, [.d (.int .u8)]⟩], fun _ => True, fun x => ((if x.1 = true then 1 else 0, ()), ())⟩
theorem fFlag : FnOk Try.prog 152 := ⟨_, Try.func152, by decide, rfl⟩
theorem pFlag : PSound Try.prog 152 sFlag := by
  refine psound (T := tab) (S := (spOf [])) (keep := k152) (by kernel_rfl) tabOk spNil (by kernel_rfl) Try.func152 (by kernel_rfl) (by decide) fun xs hg hp => ?_
  obtain ⟨g, ⟨⟩⟩ := xs
  change Bool at g
  show vfun tab _ k152 Try.f152 [.b g] [] _
  refine Ev.out ?_
  repeat' (first | ((with_reducible refine Ev.mk ?_); conv => whnf) | (with_reducible refine And.intro ?_ ?_) | (intro h))
  · exact Leaf.mk (ret1 (show (1 : Int) = if g = true then 1 else 0 by rw [if_pos h]))
  · exact Leaf.mk (ret1 (show (0 : Int) = if g = true then 1 else 0 by rw [if_neg (by rw [h]; simp)]))
def sVEqual : PSpec := ⟨[.d (.slice VerT), .d (.slice VerT)], [⟨false, [.d .bool]⟩], fun _ => True, fun x => ((decide ((x.1 : List Ver) = x.2.1), ()), ())⟩
theorem fVEqual : FnOk Try.prog 112 := ⟨_, Try.func112, by decide, rfl⟩
theorem pVEqual : PSound Try.prog 112 sVEqual := by
  refine psound (T := tab) (S := (spOf [])) (keep := k112) (by kernel_rfl) tabOk spNil (by kernel_rfl) Try.func112 (by kernel_rfl) (by decide) fun xs hg hp => ?_
  obtain ⟨xs, ys, ⟨⟩⟩ := xs
  obtain ⟨⟨hl, -⟩, ⟨hl2, -⟩, -⟩ := hg
  have hl := len63 hl
  have hl2 := len63 hl2
  change List Ver at xs ys
  change xs.length ≤ _ at hl
  change ys.length ≤ _ at hl2
  clear hp
  show vfun tab _ k112 Try.f112 [.sl VerT xs, .sl VerT ys] [] _
  refine Ev.out ?_
  repeat' (first | ((with_reducible refine Ev.mk ?_); conv => whnf) | (with_reducible refine And.intro ?_ ?_) | (intro h))
  all_goals (try simp only [decide_eq_true_eq, decide_eq_false_iff_not, beq_iff_eq, bne_iff_ne, beq_eq_false_iff_ne, bne_eq_false_iff_eq, Int.toNat_natCast, ge_iff_le, gt_iff_lt, Bool.not_eq_true', Bool.not_eq_false', Int.not_lt, Int.not_le, ne_eq] at *)
  all_goals (try dsimp only [Ty.den, Ty.dflt, VerT] at *)
  all_goals (try simp only [eq4, ne4, eq3, ne3, eq2, ne2, Prod.eta, List.length_cons, List.length_nil, List.length_append, Nat.zero_add] at *)
  all_goals (try simp (disch := omega) only [wrap64] at *)
  · refine Leaf.mk (ret1 (show false = decide (xs = ys) from ?_))
    rw [eq_comm, decide_eq_false_iff_not]; intro hc; subst hc; omega
  refine LoopVC.on (fun i : Nat => [(13, .i .i64 i)]) (fun _ => []) (fun i => i ≤ xs.length ∧ xs.take i = ys.take i) (fun i => xs.length - i) 0 rfl ⟨by omega, by simp⟩ ?_
  intro i ⟨hi, he⟩
  repeat' (first | ((with_reducible refine Ev.mk ?_); conv => whnf) | (with_reducible refine And.intro ?_ ?_) | (intro h))
  all_goals (try simp only [decide_eq_true_eq, decide_eq_false_iff_not, beq_iff_eq, bne_iff_ne, beq_eq_false_iff_ne, bne_eq_false_iff_eq, Int.toNat_natCast, ge_iff_le, gt_iff_lt, Bool.not_eq_true', Bool.not_eq_false', Int.not_lt, Int.not_le, ne_eq] at *)
  all_goals (try dsimp only [Ty.den, Ty.dflt, VerT] at *)
  all_goals (try simp only [eq4, ne4, eq3, ne3, eq2, ne2, Prod.eta, List.length_cons, List.length_nil, List.length_append, Nat.zero_add] at *)
  all_goals (try simp (disch := omega) only [wrap64] at *)
  all_goals try first | exact leafDraw (by kernel_rfl) | exact Leaf.mk trivial | (refine Leaf.mk ?_; omega) | (refine Leaf.mk ?_; unfold maxLen; omega)
  all_goals first
    | exact Leaf.mk (ret1 (show false = decide (xs = ys) by rw [eq_comm, decide_eq_false_iff_not]; exact same_not ver0 h))
    | exact Leaf.mk ⟨i + 1, rfl, ⟨by omega, same_step ver0 (by omega) he (by omega) h⟩, by omega⟩
    | exact Leaf.mk (ret1 (show true = decide (xs = ys) by rw [eq_comm, decide_eq_true_eq]; exact same_end (by omega) he (by omega)))
def sameS (a b : Stk) : Bool := decide (a = b)
def sSSame : PSpec := ⟨[.d StT, .d StT], [⟨false, [.d .bool]⟩], fun _ => True, fun x => ((sameS x.1 x.2.1, ()), ())⟩
theorem fSSame : FnOk Try.prog 75 := ⟨_, Try.func75, by decide, rfl⟩
theorem pSSame : PSound Try.prog 75 sSSame := by
  refine psound (T := tab) (S := (spOf [(112, sVEqual.spec (lsOf []))])) (keep := k75) (by kernel_rfl) tabOk (spCons (pOk pVEqual fVEqual (by decide) lsNil) spNil) (by kernel_rfl) Try.func75 (by kernel_rfl) (by decide) fun xs hg hp => ?_
  obtain ⟨⟨k, xs⟩, ⟨k2, ys⟩, ⟨⟩⟩ := xs
  change List UInt8 at k k2
  change List Ver at xs ys
  show vfun tab _ k75 Try.f75 [.agg [.s k, .sl VerT xs], .agg [.s k2, .sl VerT ys]] [] _
  refine Ev.out ?_
  repeat' (first | ((with_reducible refine Ev.mk ?_); conv => whnf) | (with_reducible refine And.intro ?_ ?_) | (intro h))
  all_goals (try simp only [decide_eq_true_eq, decide_eq_false_iff_not, beq_iff_eq, bne_iff_ne, beq_eq_false_iff_ne, bne_eq_false_iff_eq, Int.toNat_natCast, ge_iff_le, gt_iff_lt, Bool.not_eq_true', Bool.not_eq_false', Int.not_lt, Int.not_le, ne_eq] at *)
  all_goals (try dsimp only [Ty.den, Ty.dflt, VerT, sVEqual] at *)
  all_goals (try simp only [eq4, ne4, eq3, ne3, eq2, ne2, Prod.eta, List.length_cons, List.length_nil, List.length_append, Nat.zero_add] at *)
  all_goals (try simp (disch := omega) only [wrap64] at *)
  all_goals try first | exact leafDraw (by kernel_rfl) | exact Leaf.mk trivial | (refine Leaf.mk ?_; omega) | (refine Leaf.mk ?_; unfold maxLen; omega)
  all_goals first
    | exact Leaf.mk (ret1 (show decide (xs = ys) = decide ((k, xs) = (k2, ys)) by rw [h]; simp))
    | exact Leaf.mk (ret1 (show false = decide ((k, xs) = (k2, ys)) by rw [eq_comm, decide_eq_false_iff_not]; intro hc; exact h (congrArg Prod.fst hc)))
end Go.Proofs.Ytkmfjlfejdoehaa

set_option linter.unusedVariables false
set_option linter.unusedSimpArgs false
set_option maxRecDepth 8000
namespace Go.Proofs.Ytkmfjlfejdoehaa
open Go.Eng
theorem rdSmall_put {n : Int} (h0 : 0 ≤ n) (h1 : n ≤ 1099511627776) (r : List Int) : rdSmall (putSmall n ++ r) 0 = (n, r, 0) := by
  have hg := getSmall_put (n := n) (by omega) r
  rw [rdSmall, if_neg (by simp), hg]
  dsimp only
  rw [if_neg (by simp), if_neg (by omega), Int.toNat_natCast, List.drop_left']
  rfl
theorem rdText_put {k : List UInt8} {m : Int} (h0 : (k.length : Int) ≤ m) (r : List Int) : rdText (putText k ++ r) 0 m = (k, r, 0) := by
  have hg := getText_put k r
  rw [rdText, if_neg (by simp), hg]
  dsimp only
  rw [if_neg (by simp), if_neg (by split <;> omega), Int.toNat_natCast, List.drop_left']
  rfl
def putV (v : Ver) : List Int := putSmall v.1 ++ (putSmall v.2.1 ++ ((if v.2.2.1 = true then 1 else 0) :: putText v.2.2.2))
def putS (s : Stk) : List Int := putText s.1 ++ (putSmall s.2.length ++ s.2.flatMap putV)
structure VerOk (v : Ver) : Prop where
  val : v.2.2.2.length ≤ 24
  gone : v.2.2.1 = true → v.2.2.2 = []
  txn : 0 ≤ v.1 ∧ v.1 ≤ 1099511627776
  ts : 0 ≤ v.2.1 ∧ v.2.1 ≤ 1099511627776
theorem verC_ok {v : Ver} : verC v = 0 ↔ VerOk v := by
  unfold verC inB
  constructor
  · intro h
    split at h
    · omega
    split at h
    · omega
    split at h
    · rename_i h1 h2 h3
      refine ⟨by omega, fun hg => ?_, of_decide_eq_true h3.1, of_decide_eq_true h3.2⟩
      by_cases hv : v.2.2.2 = []
      · exact hv
      · exact absurd ⟨hg, hv⟩ h2
    · omega
  · intro h
    rw [if_neg (by have := h.val; omega), if_neg (fun hc => hc.2 (h.gone hc.1)), if_pos ⟨decide_eq_true h.txn, decide_eq_true h.ts⟩]
structure StkOk (s : Stk) : Prop where
  key : s.1.length ≤ 16
  len : s.2.length ≤ 8
  all : ∀ v ∈ s.2, VerOk v
  ord : ordered s.2 = true
theorem firstBad_iff (xs : List Ver) : firstBad xs = 0 ↔ ∀ v ∈ xs, VerOk v := by
  induction xs with
  | nil => simp [firstBad]
  | cons x r ih =>
    rw [firstBad]
    split
    · rename_i h
      rw [ih]
      simp [verC_ok.1 h]
    · rename_i h
      constructor
      · intro hc; exact absurd hc h
      · intro hc; exact absurd (verC_ok.2 (hc x (by simp))) h
theorem check_ok {s : Stk} : check s = 0 ↔ StkOk s := by
  unfold check
  constructor
  · intro h
    split at h
    · omega
    split at h
    · omega
    split at h
    · rename_i h1 h2 h3
      split at h
      · rename_i h4; exact ⟨by omega, by omega, (firstBad_iff _).1 h3, h4⟩
      · omega
    · rename_i h3; exact absurd h h3
  · intro h
    rw [if_neg (by have := h.key; omega), if_neg (by have := h.len; omega), if_pos ((firstBad_iff _).2 h.all), if_pos h.ord]
def takeL : Nat → Int → Int → List Int → Int → List Ver → List Int × Int × List Ver
  | 0, _, _, b, e, acc => (b, e, acc)
  | f + 1, n, i, b, e, acc =>
    if (i < n ∧ i ≤ 8) ∧ e = 0 then
      let t := rdSmall b e
      let u := rdSmall t.2.1 t.2.2
      let g : Bool × List Int := if u.2.2 = 0 ∧ 0 < u.2.1.length then (decide (u.2.1.getD 0 0 = 1), u.2.1.drop 1) else (false, u.2.1)
      let w := rdText g.2 u.2.2 24
      takeL f n (i + 1) w.2.1 w.2.2 (acc ++ [(t.1, u.1, g.1, w.1)])
    else (b, e, acc)
def takeF (b : List Int) (e : Int) : (List Int × Int) × Stk :=
  let t := rdText b e 16
  let n := rdSmall t.2.1 t.2.2
  let l := takeL 10 n.1 0 n.2.1 n.2.2 []
  ((l.1, l.2.1), (t.1, l.2.2))
theorem takeL_stop {n : Int} {i : Int} (f : Nat) (b : List Int) (e : Int) (acc : List Ver) (h : ¬ ((i < n ∧ i ≤ 8) ∧ e = 0)) : takeL f n i b e acc = (b, e, acc) := by
  cases f with
  | zero => rfl
  | succ f => rw [takeL, if_neg h]
theorem takeL_put (r : List Int) : ∀ (vs : List Ver) (f : Nat) (n i : Int) (acc : List Ver), (∀ v ∈ vs, VerOk v) → n = i + vs.length → n ≤ 8 → vs.length ≤ f → takeL f n i (vs.flatMap putV ++ r) 0 acc = (r, 0, acc ++ vs)
  | [], f, n, i, acc, _, hn, _, _ => by
    rw [takeL_stop _ _ _ _ (by simp at hn; omega)]; simp
  | v :: vs, 0, _, _, _, _, _, _, h => by simp at h
  | v :: vs, f + 1, n, i, acc, hv, hn, h8, hf => by
    have ok := hv v (by simp)
    simp only [List.length_cons] at hn hf
    rw [takeL, if_pos (by omega)]
    have hb : List.flatMap putV (v :: vs) ++ r = putSmall v.1 ++ (putSmall v.2.1 ++ ((if v.2.2.1 = true then 1 else 0) :: (putText v.2.2.2 ++ (vs.flatMap putV ++ r)))) := by
      simp [putV]
    rw [hb, rdSmall_put ok.txn.1 ok.txn.2]
    dsimp only
    rw [rdSmall_put ok.ts.1 ok.ts.2]
    dsimp only
    rw [if_pos ⟨rfl, by simp⟩]
    dsimp only
    rw [List.drop_one, List.tail_cons, rdText_put (by have := ok.val; omega)]
    dsimp only
    rw [takeL_put r vs f n (i + 1) _ (fun x hx => hv x (by simp [hx])) (by omega) h8 (by omega)]
    have hg : decide (((if v.2.2.1 = true then (1 : Int) else 0) :: (putText v.2.2.2 ++ (vs.flatMap putV ++ r))).getD 0 0 = 1) = v.2.2.1 := by
      cases v.2.2.1 <;> simp
    rw [hg, List.append_assoc]; rfl
theorem takeF_put {s : Stk} (h : check s = 0) (r : List Int) : takeF (putS s ++ r) 0 = ((r, 0), s) := by
  have ok := check_ok.1 h
  have hl := ok.len
  unfold takeF putS
  rw [List.append_assoc, rdText_put (by have := ok.key; omega)]
  dsimp only
  rw [List.append_assoc, rdSmall_put (by omega) (by omega)]
  dsimp only
  rw [takeL_put r s.2 10 s.2.length 0 [] ok.all (by omega) (by omega) (by omega)]
  rfl
def getS (b : List Int) : Stk × Int := if check (takeF b 0).2 = 0 ∧ putS (takeF b 0).2 = b then ((takeF b 0).2, 0) else (([], []), 4)
theorem getS_put {s : Stk} {b : List Int} (h : check s = 0) (hb : putS s = b) : getS b = (s, 0) := by
  subst hb
  have := takeF_put h []
  rw [List.append_nil] at this
  unfold getS
  rw [this, if_pos ⟨h, rfl⟩]
theorem getS_not {b : List Int} (h : ∀ s, check s = 0 → putS s ≠ b) : getS b = (([], []), 4) := by
  unfold getS
  rw [if_neg (fun hc => h _ hc.1 hc.2)]
theorem flat_len {α : Type} (f : Ver → List α) (m : Nat) : ∀ (l : List Ver), (∀ v ∈ l, (f v).length ≤ m) → (l.flatMap f).length ≤ l.length * m
  | [], _ => by simp
  | v :: r, h => by
    have h1 := h v (by simp)
    have h2 := flat_len f m r (fun x hx => h x (by simp [hx]))
    simp only [List.flatMap_cons, List.length_append, List.length_cons, Nat.add_mul, Nat.one_mul]
    omega
theorem putV_len {v : Ver} (h : VerOk v) : (putV v).length ≤ 69 := by
  have h1 := putSmall_len v.1
  have h2 := putSmall_len v.2.1
  have h3 := putText_len v.2.2.2
  have h4 := h.val
  simp only [putV, List.length_append, List.length_cons]; omega
theorem putS_len {s : Stk} (h : check s = 0) : (putS s).length ≤ 595 := by
  have ok := check_ok.1 h
  have h1 := putText_len s.1
  have h2 := putSmall_len s.2.length
  have h3 := flat_len putV 69 s.2 (fun v hv => putV_len (ok.all v hv))
  have := ok.key; have := ok.len
  have h4 : s.2.length * 69 ≤ 552 := by omega
  simp only [putS, List.length_append]; omega
theorem isB_V (v : Ver) : isB (putV v) := by
  refine isB_append (isB_small _) (isB_append (isB_small _) fun x hx => ?_)
  rcases List.mem_cons.1 hx with rfl | hx
  · split <;> omega
  · exact isB_put _ x hx
theorem isB_flat (l : List Ver) : isB (l.flatMap putV) := fun x hx => by
  obtain ⟨v, _, hv⟩ := List.mem_flatMap.1 hx
  exact isB_V v x hv
theorem isB_S (s : Stk) : isB (putS s) := isB_append (isB_put _) (isB_append (isB_small _) (isB_flat _))
end Go.Proofs.Ytkmfjlfejdoehaa

set_option linter.unusedVariables false
set_option linter.unusedSimpArgs false
set_option maxRecDepth 8000
set_option maxHeartbeats 4000000
namespace Go.Proofs.Ytkmfjlfejdoehaa
open Go.Eng
theorem wrapu {n : Int} (h : 0 ≤ n ∧ n ≤ 1099511627776) : IntKind.u64.wrap n = n := by rw [wrapU64]; omega
def putR11 (s : Stk) : List Int × Int := if check s = 0 then (putS s, 0) else ([], check s)
def sSPut : PSpec := ⟨[.d StT], [⟨false, [.d BT]⟩, ⟨false, [.d (.int .i64)]⟩], fun _ => True, fun x => (((putR11 x.1).1, ()), ((putR11 x.1).2, ()), ())⟩
theorem retB {u v : List Int × Int} (h : u = v) : (some ((u.1, ()), (u.2, ()), ()) : Option ((List Int × Unit) × (Int × Unit) × Unit)) = some ((v.1, ()), (v.2, ()), ()) := by rw [h]
theorem fSPut : FnOk Try.prog 129 := ⟨_, Try.func129, by decide, rfl⟩
theorem pSPut : PSound Try.prog 129 sSPut := by
  refine psound (T := tab) (S := (spOf [(113, sCheck.spec (lsOf [])), (122, sPutText.spec (lsOf [])), (120, sPutSmall.spec (lsOf [])), (152, sFlag.spec (lsOf [])), (123, sConcatB.spec (lsOf []))])) (keep := k129) (by kernel_rfl) tabOk (spCons (pOk pCheck fCheck (by decide) lsNil) (spCons (pOk pPutText fPutText (by decide) lsNil) (spCons (pOk pPutSmall fPutSmall (by decide) lsNil) (spCons (pOk pFlag fFlag (by decide) lsNil) (spCons (pOk pConcatB fConcatB (by decide) lsNil) spNil))))) (by kernel_rfl) Try.func129 (by kernel_rfl) (by decide) fun xs hg hp => ?_
  obtain ⟨⟨key, xs⟩, ⟨⟩⟩ := xs
  change List UInt8 at key
  change List Ver at xs
  clear hp hg
  show vfun tab _ k129 Try.f129 [.agg [.s key, .sl VerT xs]] [] _
  refine Ev.out ?_
  repeat' (first | ((with_reducible refine Ev.mk ?_); conv => whnf) | (with_reducible refine And.intro ?_ ?_) | (intro h))
  all_goals (try simp only [decide_eq_true_eq, decide_eq_false_iff_not, beq_iff_eq, bne_iff_ne, beq_eq_false_iff_ne, bne_eq_false_iff_eq, Int.toNat_natCast, ge_iff_le, gt_iff_lt, Bool.not_eq_true', Bool.not_eq_false', Int.not_lt, Int.not_le, ne_eq] at *)
  all_goals (try dsimp only [Ty.den, Ty.dflt, VerT, sCheck, sPutText, sPutSmall] at *)
  all_goals (try simp only [eq4, ne4, eq3, ne3, eq2, ne2, Prod.eta, List.length_cons, List.length_nil, List.length_append, Nat.zero_add] at *)
  all_goals (try simp (disch := omega) only [wrap64] at *)
  all_goals try first | exact leafDraw (by kernel_rfl) | exact Leaf.mk trivial | (refine Leaf.mk ?_; omega) | (refine Leaf.mk ?_; unfold maxLen; omega)
  · exact Leaf.mk (retB (u := ([], check (key, xs))) (if_neg h).symm)
  all_goals
    have ok := check_ok.1 ‹check (key, xs) = 0›
    have hk := ok.key
    have hl := ok.len
    dsimp only at hk hl
    have h1 := putText_len key
    have h2 := putSmall_len xs.length
  · exact Leaf.mk (show key.length ≤ 100000 by omega)
  all_goals rw [wrapu (by omega)]
  · exact Leaf.mk (by omega)
  · exact Leaf.mk (by unfold maxLen; omega)
  have hS : putR11 (key, xs) = (putS (key, xs), 0) := if_pos ‹check (key, xs) = 0›
  have hva : ∀ i, i < xs.length → VerOk (xs.getD i ver0) := fun i hi => ok.all _ (getD_mem ver0 hi)
  refine LoopVC.weak [(.slot 5, .frz)] (fun i : Nat => [(5, .sl (.int .u8) (putText key ++ putSmall xs.length ++ (xs.take i).flatMap putV)), (25, .i .i64 i)]) (fun _ => []) (fun i => i ≤ xs.length) (fun i => xs.length - i) 0 (Ev.mk ?_)
  (conv => whnf)
  refine ⟨Leaf.mk ?_, Leaf.mk ?_, ?_⟩
  · simp only [List.take_zero, List.flatMap_nil, List.append_nil]; rfl
  · omega
  intro i hi
  have hfl := flat_len putV 69 (xs.take i) (fun v hv => putV_len (ok.all v (List.mem_of_mem_take hv)))
  have htl : (xs.take i).length * 69 ≤ 552 := by rw [List.length_take]; omega
  repeat' (first | ((with_reducible refine Ev.mk ?_); conv => whnf) | (with_reducible refine And.intro ?_ ?_) | (intro h))
  all_goals (try simp only [decide_eq_true_eq, decide_eq_false_iff_not, beq_iff_eq, bne_iff_ne, beq_eq_false_iff_ne, bne_eq_false_iff_eq, Int.toNat_natCast, ge_iff_le, gt_iff_lt, Bool.not_eq_true', Bool.not_eq_false', Int.not_lt, Int.not_le, ne_eq] at *)
  all_goals (try dsimp only [Ty.den, Ty.dflt, VerT, sPutText, sPutSmall, sFlag] at *)
  all_goals (try simp only [eq4, ne4, eq3, ne3, eq2, ne2, Prod.eta, List.length_cons, List.length_nil, List.length_append, Nat.zero_add] at *)
  all_goals (try simp (disch := omega) only [wrap64] at *)
  all_goals try first | exact leafDraw (by kernel_rfl) | exact Leaf.mk trivial | (refine Leaf.mk ?_; omega) | (refine Leaf.mk ?_; unfold maxLen; omega)
  · exact Leaf.mk (show (xs.getD i ver0).2.2.2.length ≤ 100000 by have := (hva i (by omega)).val; omega)
  · have hv := hva i (by omega)
    have hvl := putV_len hv
    have h3 := flat_len putV 69 (xs.take i) (fun v hv => putV_len (ok.all v (List.mem_of_mem_take hv)))
    rw [wrapu (n := (xs.getD i ver0).1) hv.txn, wrapu (n := (xs.getD i ver0).2.1) hv.ts]
    refine Leaf.mk (show 5 ≤ 1000 ∧ (List.flatten (α := Int) _).length ≤ 1000000 from ⟨by omega, ?_⟩)
    simp only [putV, List.length_append, List.length_cons] at hvl
    dsimp only [ver0] at hvl ⊢
    simp only [List.flatten_cons, List.flatten_nil, List.length_append, List.length_cons, List.length_nil]
    omega
  · have hv := hva i (by omega)
    rw [wrapu (n := (xs.getD i ver0).1) hv.txn, wrapu (n := (xs.getD i ver0).2.1) hv.ts]
    refine Leaf.mk ⟨i + 1, ?_, by omega, by omega⟩
    rw [flatMap_at ver0 (by omega)]
    have e : (sConcatB.fn ([putText key ++ putSmall xs.length ++ (xs.take i).flatMap putV, putSmall (xs.getD i ver0).1, putSmall (xs.getD i ver0).2.1, [if (xs.getD i ver0).2.2.1 = true then 1 else 0], putText (xs.getD i ver0).2.2.2], ())).1.1 = putText key ++ putSmall xs.length ++ ((xs.take i).flatMap putV ++ putV (xs.getD i ver0)) := by
      show List.flatten _ = _
      simp [putV]
    exact congrArg (fun l => (⟨[(5, V.sl (.int .u8) l), (23, V.sl VerT xs), (24, V.i .i64 (xs.length : Int)), (25, V.i .i64 ((i : Int) + 1))], []⟩ : St)) e
  · rw [List.take_of_length_le (by omega)]
    refine Leaf.mk (retB (u := (putText key ++ putSmall xs.length ++ xs.flatMap putV, 0)) ?_)
    show _ = putR11 (key, xs)
    rw [hS, putS, List.append_assoc]
end Go.Proofs.Ytkmfjlfejdoehaa

set_option linter.unusedVariables false
set_option linter.unusedSimpArgs false
namespace Go.Proofs.Ytkmfjlfejdoehaa
open Go.Eng
def rel (me at' : Int) (v : Ver) : Bool := pend me v || okTs at' v
end Go.Proofs.Ytkmfjlfejdoehaa

set_option linter.unusedVariables false
set_option linter.unusedSimpArgs false
set_option maxRecDepth 8000
set_option maxHeartbeats 4000000
namespace Go.Proofs.Ytkmfjlfejdoehaa
open Go.Eng
def sSPutR : PSpec := sSPut
end Go.Proofs.Ytkmfjlfejdoehaa

set_option linter.unusedVariables false
set_option linter.unusedSimpArgs false
set_option maxRecDepth 8000
set_option maxHeartbeats 4000000
namespace Go.Proofs.Ytkmfjlfejdoehaa
open Go.Eng
theorem rdSmall_suf (b : List Int) (e : Int) : (rdSmall b e).2.1 <:+ b := by
  unfold rdSmall
  repeat' split
  all_goals first | exact List.suffix_refl _ | exact List.drop_suffix _ _
theorem rdText_suf (b : List Int) (e m : Int) : (rdText b e m).2.1 <:+ b := by
  unfold rdText
  generalize (if 0 < m then m else 0) = mm
  repeat' split
  all_goals first | exact List.suffix_refl _ | exact List.drop_suffix _ _
theorem suf_len {a b : List Int} (h : a <:+ b) : a.length ≤ b.length := h.length_le
theorem suf_cut {R b : List Int} (h : R <:+ b) : (List.take b.length b).drop ((b.length : Int) - (R.length : Int)).toNat = R := by
  have := h.length_le
  rw [List.take_length, show ((b.length : Int) - (R.length : Int)).toNat = b.length - R.length by omega]
  exact (List.suffix_iff_eq_drop.1 h).symm
theorem flat_split {l : List Ver} {i : Nat} (h : i < l.length) (r : List Int) : (l.drop i).flatMap putV ++ r = putSmall (l.getD i ver0).1 ++ (putSmall (l.getD i ver0).2.1 ++ ((if (l.getD i ver0).2.2.1 = true then 1 else 0) :: (putText (l.getD i ver0).2.2.2 ++ ((l.drop (i + 1)).flatMap putV ++ r)))) := by
  rw [drop_at ver0 h]
  simp [putV]
theorem str_eq {xs ys : List Int} (hx : isB xs) (hy : isB ys) : (strOfBytes xs == strOfBytes ys) = decide (xs = ys) := by
  by_cases h : xs = ys
  · subst h; simp
  · rw [decide_eq_false h, beq_eq_false_iff_ne]
    exact fun hc => h (str_inj hx hy hc)
def sSGet : PSpec := ⟨[.d BT], [⟨true, [.d StT]⟩, ⟨false, [.d (.int .i64)]⟩], fun x => List.length (α := Int) x.1 ≤ 100000, fun x => (((getS x.1).1, ()), ((getS x.1).2, ()), ())⟩
theorem retG {u v : Stk × Int} (h : u = v) : (some ((u.1, ()), (u.2, ()), ()) : Option ((Stk × Unit) × (Int × Unit) × Unit)) = some ((v.1, ()), (v.2, ()), ()) := by rw [h]
theorem putR11_zero {s : Stk} (h : (putR11 s).2 = 0) : check s = 0 ∧ (putR11 s).1 = putS s := by
  unfold putR11 at h ⊢
  split at h
  · rename_i hc; rw [if_pos hc]; exact ⟨hc, rfl⟩
  · rename_i hc; exact absurd h hc
theorem putR11_not {s : Stk} (h : ¬ (putR11 s).2 = 0) : ¬ check s = 0 := fun hc => h (by unfold putR11; rw [if_pos hc])
theorem fSGet : FnOk Try.prog 89 := ⟨_, Try.func89, by decide, rfl⟩
theorem pSGet : PSound Try.prog 89 sSGet := by
  refine psound (T := tab) (S := (spOf [(86, sNew.spec (lsOf [])), (91, sText.spec), (87, sSmall.spec), (88, sLeft.spec), (128, sDone.spec), (129, sSPut.spec (lsOf [])), (90, sBEqual.spec (lsOf []))])) (keep := k89) (by kernel_rfl) tabOk (spCons (.inl ⟨nOk lsNil pNew, fNew⟩) (spCons (.inl ⟨pText, fText⟩) (spCons (.inl ⟨pSmall, fSmall⟩) (spCons (.inl ⟨pLeft, fLeft⟩) (spCons (.inl ⟨pDone, fDone⟩) (spCons (pOk pSPut fSPut (by decide) lsNil) (spCons (pOk pBEqual fBEqual (by decide) lsNil) spNil))))))) (by kernel_rfl) Try.func89 (by kernel_rfl) (by decide) fun xs hg hp => ?_
  obtain ⟨b, ⟨⟩⟩ := xs
  obtain ⟨⟨-, hx⟩, -⟩ := hg
  change List Int at b
  change b.length ≤ 100000 at hp
  have hB : isB b := isB_good hx
  clear hx
  have hb1 := rdText_suf b 0 16
  have hb2 := rdSmall_suf (rdText b 0 16).2.1 (rdText b 0 16).2.2
  have hl1 := suf_len hb1
  have hl2 := suf_len hb2
  show vfun tab _ k89 Try.f89 [.sl (.int .u8) b] [] _
  refine Ev.out ?_
  repeat' (first | ((with_reducible refine Ev.mk ?_); conv => whnf) | (with_reducible refine And.intro ?_ ?_) | (intro h))
  all_goals (try simp only [decide_eq_true_eq, decide_eq_false_iff_not, beq_iff_eq, bne_iff_ne, beq_eq_false_iff_ne, bne_eq_false_iff_eq, Int.toNat_natCast, ge_iff_le, gt_iff_lt, Bool.not_eq_true', Bool.not_eq_false', Int.not_lt, Int.not_le, ne_eq] at *)
  all_goals (try dsimp only [Ty.den, Ty.dflt, VerT, sNew, sText, sSmall] at *)
  all_goals (try simp only [eq4, ne4, eq3, ne3, eq2, ne2, Prod.eta, List.length_cons, List.length_nil, List.length_append, Nat.zero_add] at *)
  all_goals (try simp (disch := omega) only [wrap64] at *)
  all_goals try first | exact leafDraw (by kernel_rfl) | exact Leaf.mk trivial | (refine Leaf.mk ?_; omega) | (refine Leaf.mk ?_; unfold maxLen; omega)
  generalize hN : (if 9 < (rdSmall (rdText b 0 16).2.1 (rdText b 0 16).2.2).1 then 9 else (rdSmall (rdText b 0 16).2.1 (rdText b 0 16).2.2).1) = N
  have hN9 : N ≤ 9 := by rw [← hN]; split <;> omega
  generalize hkey : (rdText b 0 16).1 = key
  generalize hb0 : (rdSmall (rdText b 0 16).2.1 (rdText b 0 16).2.2).2.1 = b0 at *
  generalize he0 : (rdSmall (rdText b 0 16).2.1 (rdText b 0 16).2.2).2.2 = e0
  have h0 : ∀ s, check s = 0 → putS s = b → key = s.1 ∧ N = s.2.length ∧ b0 = s.2.flatMap putV ∧ e0 = 0 := fun s hs hb => by
    have ok := check_ok.1 hs
    have h1 : rdText b 0 16 = (s.1, putSmall s.2.length ++ s.2.flatMap putV, 0) := by
      rw [← hb]; exact rdText_put (by have := ok.key; omega) _
    have h2 := rdSmall_put (n := s.2.length) (by omega) (by have := ok.len; omega) (s.2.flatMap putV)
    rw [h1] at hkey hb0 he0 hN
    dsimp only at hkey hb0 he0 hN
    rw [h2] at hb0 he0 hN
    dsimp only at hkey hb0 he0 hN
    have := ok.len
    exact ⟨hkey.symm, by rw [← hN, if_neg (by omega)], hb0.symm, he0.symm⟩
  refine LoopVC.weak [(.cell 2 1, .nil 78 VerT)] (fun a : Nat × List Int × Int × List Ver => [(18, .i .i64 a.1)]) (fun a => [(1, .box [.sl (.int .u8) a.2.1, .i .i64 a.2.2.1]), (3, .arr 78 VerT a.2.2.2)]) (fun a => a.1 ≤ 9 ∧ a.2.1 <:+ b ∧ a.2.2.2.length = a.1 ∧ ∀ s, check s = 0 → putS s = b → N = s.2.length ∧ key = s.1 ∧ a.1 ≤ s.2.length ∧ a.2.1 = (s.2.drop a.1).flatMap putV ∧ a.2.2.1 = 0 ∧ a.2.2.2 = s.2.take a.1) (fun a => 9 - a.1) (0, b0, e0, []) (Ev.mk ?_)
  (conv => whnf)
  refine ⟨Leaf.mk ?_, Leaf.mk ?_, ?_⟩
  · rfl
  · refine ⟨by simp, hb2.trans hb1, rfl, fun s hs hb => ?_⟩
    obtain ⟨h1, h2, h3, h4⟩ := h0 s hs hb
    exact ⟨h2, h1, Nat.zero_le _, h3, h4, rfl⟩
  intro ⟨i, rb, re, vs⟩ ⟨hi, hrb, hvl, hv⟩
  dsimp only at hi hrb hvl hv ⊢
  have hrl := suf_len hrb
  have hs1 := rdSmall_suf rb re
  have hs2 := rdSmall_suf (rdSmall rb re).2.1 (rdSmall rb re).2.2
  have hs3 := fun l => suf_len (rdText_suf l 0 24)
  have hs1l := suf_len hs1
  have hs2l := suf_len hs2
  repeat' (first | ((with_reducible refine Ev.mk ?_); conv => whnf) | (with_reducible refine And.intro ?_ ?_) | (intro h))
  all_goals (try simp only [decide_eq_true_eq, decide_eq_false_iff_not, beq_iff_eq, bne_iff_ne, beq_eq_false_iff_ne, bne_eq_false_iff_eq, Int.toNat_natCast, ge_iff_le, gt_iff_lt, Bool.not_eq_true', Bool.not_eq_false', Int.not_lt, Int.not_le, ne_eq] at *)
  all_goals (try dsimp only [Ty.den, Ty.dflt, VerT, sNew, sText, sSmall, sLeft, sDone] at *)
  all_goals (try simp only [eq4, ne4, eq3, ne3, eq2, ne2, Prod.eta, List.length_cons, List.length_nil, List.length_append, Nat.zero_add] at *)
  all_goals (try simp (disch := omega) only [wrap64] at *)
  all_goals try first | exact leafDraw (by kernel_rfl) | exact Leaf.mk trivial | (refine Leaf.mk ?_; omega) | (refine Leaf.mk ?_; unfold maxLen; omega)
  all_goals
    have hcut := suf_cut ((hs2.trans hs1).trans hrb)
    simp only [hcut] at *
    generalize hR : (rdSmall (rdSmall rb re).2.1 (rdSmall rb re).2.2).2.1 = R at *
  all_goals (try simp only [List.take_length, Int.reduceToNat] at *)
  -- what a stack's bytes would have been read as
  all_goals
    have hgo : ∀ s, check s = 0 → putS s = b → i < s.2.length → (rdSmall rb re).1 = (s.2.getD i ver0).1 ∧ (rdSmall (rdSmall rb re).2.1 (rdSmall rb re).2.2).1 = (s.2.getD i ver0).2.1 ∧ (rdSmall (rdSmall rb re).2.1 (rdSmall rb re).2.2).2.2 = 0 ∧ R = (if (s.2.getD i ver0).2.2.1 = true then 1 else 0) :: (putText (s.2.getD i ver0).2.2.2 ++ (s.2.drop (i + 1)).flatMap putV) := fun s hs hb hil => by
      obtain ⟨k1, k2, k3, k4, k5, k6⟩ := hv s hs hb
      have ok := (check_ok.1 hs).all _ (getD_mem ver0 hil)
      have e := flat_split hil []
      rw [List.append_nil, List.append_nil] at e
      have e1 : rdSmall rb re = ((s.2.getD i ver0).1, putSmall (s.2.getD i ver0).2.1 ++ ((if (s.2.getD i ver0).2.2.1 = true then 1 else 0) :: (putText (s.2.getD i ver0).2.2.2 ++ (s.2.drop (i + 1)).flatMap putV)), 0) := by
        rw [k4, k5, e]; exact rdSmall_put ok.txn.1 ok.txn.2 _
      rw [e1] at hR ⊢
      dsimp only at hR ⊢
      rw [rdSmall_put ok.ts.1 ok.ts.2] at hR ⊢
      exact ⟨rfl, rfl, rfl, hR.symm⟩
  all_goals (try have hlt : (i : Int) < N := by rw [← hN]; assumption)
  all_goals (try have hge : N ≤ (i : Int) := by rw [← hN]; assumption)
  · refine Leaf.mk (retG (u := (([], []), 4)) (v := getS b) ?_)
    rw [getS_not fun s hs hb => ?_]
    have hil := (hv s hs hb).1
    have := (hgo s hs hb (by omega)).2.2.2
    rw [this] at h
    simp at h
    omega
  · rename_i hdone
    refine Leaf.mk (retG (u := (([], []), 4)) (v := getS b) ?_)
    rw [getS_not fun s hs hb => ?_]
    have hil := (hv s hs hb).1
    obtain ⟨_, _, k3, k4⟩ := hgo s hs hb (by omega)
    have hd : ∀ x : Int, (if ¬ (rdSmall (rdSmall rb re).2.1 (rdSmall rb re).2.2).2.2 = 0 then x else if R.length = 0 then 0 else 4) = 4 := fun x => by
      rw [if_neg (fun hc => hc k3), if_neg (by omega)]
    exact hdone (hd _)
  · exact Leaf.mk (by rw [List.length_drop]; omega)
  · exact Leaf.mk (by rw [List.length_drop]; omega)
  · refine Leaf.mk ⟨(i + 1, _, _, _), rfl, ⟨by show i + 1 ≤ 9; omega, ?_, by simp; omega, fun s hs hb => ?_⟩, by show 9 - (i + 1) < _; omega⟩
    · exact (rdText_suf _ _ _).trans ((List.drop_suffix _ _).trans ((hs2.trans hs1).trans hrb))
    · obtain ⟨k1, k2, k3, k4, k5, k6⟩ := hv s hs hb
      have hil : i < s.2.length := by omega
      obtain ⟨m1, m2, m3, m4⟩ := hgo s hs hb hil
      have ok := (check_ok.1 hs).all _ (getD_mem ver0 hil)
      have e1 : rdText (R.drop 1) 0 24 = ((s.2.getD i ver0).2.2.2, (s.2.drop (i + 1)).flatMap putV, 0) := by
        rw [m4, List.drop_one, List.tail_cons]
        exact rdText_put (by have := ok.val; omega) _
      dsimp only
      rw [e1]
      refine ⟨k1, k2, by omega, rfl, rfl, ?_⟩
      rw [take_at ver0 hil, k6, m1, m2]
      have hg : (R.getD 0 0 == 1) = (s.2.getD i ver0).2.2.1 := by
        rw [m4]
        cases (s.2.getD i ver0).2.2.1 <;> rfl
      rw [hg]
  all_goals
    have hsame : ∀ s, check s = 0 → putS s = b → (key, vs) = s := fun s hs hb => by
      obtain ⟨k1, k2, k3, k4, k5, k6⟩ := hv s hs hb
      rw [k2, k6, List.take_of_length_le (by omega)]
  · refine Leaf.mk (retG (u := (([], []), 4)) (v := getS b) ?_)
    rw [getS_not fun s hs hb => ?_]
    exact putR11_not h (by rw [hsame s hs hb]; exact hs)
  · rename_i h0
    obtain ⟨k1, k2⟩ := putR11_zero h0
    refine Leaf.mk (retG (u := (([], []), 4)) (v := getS b) ?_)
    rw [getS_not fun s hs hb => ?_]
    have h : (strOfBytes b == strOfBytes (putR11 (key, vs)).1) = false := h
    rw [k2, hsame s hs hb, hb] at h
    exact eqSelf h
  · rename_i h0
    obtain ⟨k1, k2⟩ := putR11_zero h0
    have h : (strOfBytes b == strOfBytes (putR11 (key, vs)).1) = true := h
    rw [k2, beq_iff_eq] at h
    refine Leaf.mk (retG (u := ((key, vs), 0)) (v := getS b) ?_)
    rw [getS_put k1 (str_inj hB (isB_S _) h).symm]
end Go.Proofs.Ytkmfjlfejdoehaa

set_option linter.unusedVariables false
set_option linter.unusedSimpArgs false
set_option maxRecDepth 8000
set_option maxHeartbeats 4000000
namespace Go.Proofs.Ytkmfjlfejdoehaa
open Go.Eng
abbrev MsgT : Ty := .pair (.int .u8) (.pair .str (.pair (.int .i64) (.pair (.int .i64) (.pair .bool .str))))
abbrev Msg := Int × List UInt8 × Int × Int × Bool × List UInt8
abbrev msg0 : Msg := (0, [], 0, 0, false, [])
abbrev FldT : Ty := .pair .bool (.pair .bool .bool)
def ofK (k : Int) : Bool × Bool × Bool := (decide (k = 0), decide (k = 0 ∨ k = 1 ∨ k = 2), decide (k = 1 ∨ k = 3))
def sOf : PSpec := ⟨[.d (.int .u8)], [⟨true, [.d FldT]⟩], fun _ => True, fun x => ((ofK x.1, ()), ())⟩
theorem fOf : FnOk Try.prog 94 := ⟨_, Try.func94, by decide, rfl⟩
theorem pOf : PSound Try.prog 94 sOf := by
  refine psound (T := tab) (S := (spOf [])) (keep := k94) (by kernel_rfl) tabOk spNil (by kernel_rfl) Try.func94 (by kernel_rfl) (by decide) fun xs hg hp => ?_
  obtain ⟨k, ⟨⟩⟩ := xs
  change Int at k
  show vfun tab _ k94 Try.f94 [.i .u8 k] [] _
  refine Ev.out ?_
  repeat' (first | ((with_reducible refine Ev.mk ?_); conv => whnf) | (with_reducible refine And.intro ?_ ?_) | (intro h))
  all_goals (try simp only [decide_eq_true_eq, decide_eq_false_iff_not, beq_iff_eq, bne_iff_ne, beq_eq_false_iff_ne, bne_eq_false_iff_eq, Int.toNat_natCast, ge_iff_le, gt_iff_lt, Bool.not_eq_true', Bool.not_eq_false', Int.not_lt, Int.not_le, ne_eq] at *)
  all_goals (try dsimp only [Ty.den, Ty.dflt, MsgT] at *)
  all_goals (try simp only [eq4, ne4, eq3, ne3, eq2, ne2, Prod.eta, List.length_cons, List.length_nil, List.length_append, Nat.zero_add] at *)
  all_goals (try simp (disch := omega) only [wrap64] at *)
  all_goals
    refine Leaf.mk (ret1 (show _ = ofK k from ?_))
    unfold ofK
    simp_all
def sMIn : PSpec := sIn
theorem fMIn : FnOk Try.prog 95 := ⟨_, Try.func95, by decide, rfl⟩
theorem pMIn : PSound Try.prog 95 sMIn := by
  refine psound (T := tab) (S := (spOf [])) (keep := k95) (by kernel_rfl) tabOk spNil (by kernel_rfl) Try.func95 (by kernel_rfl) (by decide) fun xs hg hp => ?_
  obtain ⟨n, ⟨⟩⟩ := xs
  change Int at n
  show vfun tab _ k95 Try.f95 [.i .i64 n] [] _
  refine Ev.out ?_
  repeat' (first | ((with_reducible refine Ev.mk ?_); conv => whnf) | (with_reducible refine And.intro ?_ ?_) | (intro h))
  all_goals (try simp only [decide_eq_true_eq, decide_eq_false_iff_not, beq_iff_eq, bne_iff_ne, beq_eq_false_iff_ne, bne_eq_false_iff_eq, Int.toNat_natCast, ge_iff_le, gt_iff_lt, Bool.not_eq_true', Bool.not_eq_false', Int.not_lt, Int.not_le, ne_eq] at *)
  all_goals (try dsimp only [Ty.den, Ty.dflt, VerT] at *)
  all_goals (try simp only [eq4, ne4, eq3, ne3, eq2, ne2, Prod.eta, List.length_cons, List.length_nil, List.length_append, Nat.zero_add] at *)
  all_goals (try simp (disch := omega) only [wrap64] at *)
  all_goals
    refine Leaf.mk (ret1 (show _ = inB n from ?_))
    simp only [inB]
    first
    | (rw [decide_eq_false (p := 0 ≤ n ∧ n ≤ 1099511627776) (by omega)]; done)
    | (congr 1; simp only [eq_iff_iff]; omega)
def mForm (m : Msg) : Prop := (m.1 = 0 ∨ (m.2.2.2.2.1 = false ∧ m.2.1.length = 0 ∧ m.2.2.2.2.2.length = 0)) ∧ (m.1 = 3 → m.2.2.1 = 0) ∧ (m.1 = 0 ∨ m.1 = 2 → m.2.2.2.1 = 0) ∧ (m.2.2.2.2.1 = false ∨ m.2.2.2.2.2.length = 0)
instance (m : Msg) : Decidable (mForm m) := by unfold mForm; infer_instance
def mcheck (m : Msg) : Int := if 3 < m.1 then 13 else if ¬ mForm m then 4 else if ¬ (inB m.2.2.1 = true ∧ inB m.2.2.2.1 = true) ∨ (m.1 = 1 ∧ m.2.2.2.1 = 0) then 9 else if 16 < m.2.1.length ∨ 24 < m.2.2.2.2.2.length then 5 else 0
def sMCheck : PSpec := ⟨[.d MsgT], [⟨false, [.d (.int .i64)]⟩], fun _ => True, fun x => ((mcheck x.1, ()), ())⟩
theorem fMCheck : FnOk Try.prog 56 := ⟨_, Try.func56, by decide, rfl⟩
theorem pMCheck : PSound Try.prog 56 sMCheck := by
  refine psound (T := tab) (S := (spOf [(94, sOf.spec (lsOf [])), (95, sMIn.spec (lsOf []))])) (keep := k56) (by kernel_rfl) tabOk (spCons (pOk pOf fOf (by decide) lsNil) (spCons (pOk pMIn fMIn (by decide) lsNil) spNil)) (by kernel_rfl) Try.func56 (by kernel_rfl) (by decide) fun xs hg hp => ?_
  obtain ⟨⟨kind, key, txn, ts, gone, val⟩, ⟨⟩⟩ := xs
  obtain ⟨⟨hk, hkl, htx, hts, -, hvl⟩, -⟩ := hg
  change List UInt8 at key
  change List UInt8 at val
  change Int at kind txn ts
  change Bool at gone
  change key.length ≤ _ at hkl
  change val.length ≤ _ at hvl
  have hkl := len63 hkl
  have hvl := len63 hvl
  have hk := bdu8 hk
  show vfun tab _ k56 Try.f56 [.agg [.i .u8 kind, .s key, .i .i64 txn, .i .i64 ts, .b gone, .s val]] [] _
  refine Ev.out ?_
  repeat' (first | ((with_reducible refine Ev.mk ?_); conv => whnf) | (with_reducible refine And.intro ?_ ?_) | (intro h))
  all_goals (try simp only [decide_eq_true_eq, decide_eq_false_iff_not, beq_iff_eq, bne_iff_ne, beq_eq_false_iff_ne, bne_eq_false_iff_eq, Int.toNat_natCast, ge_iff_le, gt_iff_lt, Bool.not_eq_true', Bool.not_eq_false', Int.not_lt, Int.not_le, ne_eq] at *)
  all_goals (try dsimp only [Ty.den, Ty.dflt, MsgT, sOf, ofK, sMIn, sIn] at *)
  all_goals (try simp only [eq4, ne4, eq3, ne3, eq2, ne2, Prod.eta, List.length_cons, List.length_nil, List.length_append, Nat.zero_add] at *)
  all_goals (try simp (disch := omega) only [wrap64] at *)
  all_goals try first | exact leafDraw (by kernel_rfl) | exact Leaf.mk trivial | (refine Leaf.mk ?_; omega) | (refine Leaf.mk ?_; unfold maxLen; omega)
  all_goals try simp only [← List.length_eq_zero_iff] at *
  all_goals try simp only [inB, decide_eq_true_eq, decide_eq_false_iff_not] at *
  all_goals
    refine Leaf.mk (ret1 (show (_ : Int) = mcheck (kind, key, txn, ts, gone, val) from ?_))
    simp only [mcheck, mForm, inB, decide_eq_true_eq]
    cases gone
  all_goals try simp only [reduceCtorEq, false_and, true_and, and_true, or_true, true_or, false_or, or_false, not_true_eq_false, not_false_eq_true] at *
  all_goals
    repeat' split
  all_goals first | rfl | (exfalso; omega)
section
variable {α β γ δ ε ζ : Type} [BEq α] [LawfulBEq α] [BEq β] [LawfulBEq β] [BEq γ] [LawfulBEq γ] [BEq δ] [LawfulBEq δ] [BEq ε] [LawfulBEq ε] [BEq ζ] [LawfulBEq ζ]
theorem eq6 {x y : α × β × γ × δ × ε × ζ} : (x.1 == y.1 && (x.2.1 == y.2.1 && (x.2.2.1 == y.2.2.1 && (x.2.2.2.1 == y.2.2.2.1 && (x.2.2.2.2.1 == y.2.2.2.2.1 && x.2.2.2.2.2 == y.2.2.2.2.2))))) = true ↔ x = y := by
  obtain ⟨a, b, e, g, i, j⟩ := x; obtain ⟨c, d, f, k, l, m⟩ := y
  simp
theorem ne6 {x y : α × β × γ × δ × ε × ζ} : (x.1 == y.1 && (x.2.1 == y.2.1 && (x.2.2.1 == y.2.2.1 && (x.2.2.2.1 == y.2.2.2.1 && (x.2.2.2.2.1 == y.2.2.2.2.1 && x.2.2.2.2.2 == y.2.2.2.2.2))))) = false ↔ ¬ x = y := by
  rw [← eq6, Bool.not_eq_true]
end
end Go.Proofs.Ytkmfjlfejdoehaa

set_option linter.unusedVariables false
set_option linter.unusedSimpArgs false
set_option maxRecDepth 8000
set_option maxHeartbeats 4000000
namespace Go.Proofs.Ytkmfjlfejdoehaa
open Go.Eng
abbrev MsT : Ty := .slice MsgT
end Go.Proofs.Ytkmfjlfejdoehaa

set_option linter.unusedVariables false
set_option linter.unusedSimpArgs false
set_option maxRecDepth 8000
set_option maxHeartbeats 4000000
namespace Go.Proofs.Ytkmfjlfejdoehaa
open Go.Eng
theorem all_at' {α : Type} {p : α → Bool} {xs : List α} {i : Nat} (d : α) (h : i < xs.length) : (xs.take (i + 1)).all p = ((xs.take i).all p && p (xs.getD i d)) := by
  rw [take_at d h, List.all_append]; simp
theorem all_no' {α : Type} {p : α → Bool} {xs : List α} {i : Nat} (d : α) (h : i < xs.length) (hn : p (xs.getD i d) = false) : xs.all p = false := by
  have : ¬ xs.all p = true := fun hc => by
    rw [List.all_eq_true] at hc
    have := hc _ (getD_mem d h)
    rw [hn] at this; exact absurd this (by simp)
  simpa using this
def lightM1 (m : Msg) : Bool := decide (m.2.1.length ≤ 100 ∧ m.2.2.2.2.2.length ≤ 100)
def lightM (l : List Msg) (most : Int) : Bool := decide ((l.length : Int) ≤ most) && l.all lightM1
def sLightM : PSpec := ⟨[.d MsT, .d (.int .i64)], [⟨false, [.d .bool]⟩], fun _ => True, fun x => ((lightM x.1 x.2.1, ()), ())⟩
theorem fLightM : FnOk Try.prog 31 := ⟨_, Try.func31, by decide, rfl⟩
theorem pLightM : PSound Try.prog 31 sLightM := by
  refine psound (T := tab) (S := (spOf [])) (keep := k31) (by kernel_rfl) tabOk spNil (by kernel_rfl) Try.func31 (by kernel_rfl) (by decide) fun xs hg hp => ?_
  obtain ⟨xs, most, ⟨⟩⟩ := xs
  obtain ⟨⟨hl, hx⟩, -⟩ := hg
  change List Msg at xs
  change Int at most
  change xs.length ≤ _ at hl
  have hl := len63 hl
  clear hp
  show vfun tab _ k31 Try.f31 [.sl MsgT xs, .i .i64 most] [] _
  refine Ev.out ?_
  repeat' (first | ((with_reducible refine Ev.mk ?_); conv => whnf) | (with_reducible refine And.intro ?_ ?_) | (intro h))
  all_goals (try simp only [decide_eq_true_eq, decide_eq_false_iff_not, beq_iff_eq, bne_iff_ne, beq_eq_false_iff_ne, bne_eq_false_iff_eq, Int.toNat_natCast, ge_iff_le, gt_iff_lt, Bool.not_eq_true', Bool.not_eq_false', Int.not_lt, Int.not_le, ne_eq] at *)
  all_goals (try dsimp only [Ty.den, Ty.dflt, MsgT] at *)
  all_goals (try simp only [eq4, ne4, eq3, ne3, eq2, ne2, Prod.eta, List.length_cons, List.length_nil, List.length_append, Nat.zero_add] at *)
  all_goals (try simp (disch := omega) only [wrap64] at *)
  all_goals try first | exact leafDraw (by kernel_rfl) | exact Leaf.mk trivial | (refine Leaf.mk ?_; omega) | (refine Leaf.mk ?_; unfold maxLen; omega)
  · refine Leaf.mk (ret1 (show false = lightM xs most from ?_))
    rw [lightM, decide_eq_false (by omega), Bool.false_and]
  refine LoopVC.on (fun i : Nat => [(5, .i .i64 i)]) (fun _ => []) (fun i => i ≤ xs.length ∧ (xs.take i).all lightM1 = true) (fun i => xs.length - i) 0 rfl ⟨by omega, rfl⟩ ?_
  intro i ⟨hi, he⟩
  repeat' (first | ((with_reducible refine Ev.mk ?_); conv => whnf) | (with_reducible refine And.intro ?_ ?_) | (intro h))
  all_goals (try simp only [decide_eq_true_eq, decide_eq_false_iff_not, beq_iff_eq, bne_iff_ne, beq_eq_false_iff_ne, bne_eq_false_iff_eq, Int.toNat_natCast, ge_iff_le, gt_iff_lt, Bool.not_eq_true', Bool.not_eq_false', Int.not_lt, Int.not_le, ne_eq] at *)
  all_goals (try dsimp only [Ty.den, Ty.dflt, MsgT] at *)
  all_goals (try simp only [eq4, ne4, eq3, ne3, eq2, ne2, Prod.eta, List.length_cons, List.length_nil, List.length_append, Nat.zero_add] at *)
  all_goals (try simp (disch := omega) only [wrap64] at *)
  all_goals try first | exact leafDraw (by kernel_rfl) | exact Leaf.mk trivial | (refine Leaf.mk ?_; omega) | (refine Leaf.mk ?_; unfold maxLen; omega)
  all_goals first
    | (refine Leaf.mk (ret1 (show false = lightM xs most from ?_))
       rw [lightM, all_no' msg0 (by omega) (show lightM1 (xs.getD i msg0) = false from decide_eq_false (fun hc => by have h1 := hc.1; have h2 := hc.2; dsimp only [msg0] at *; omega)), Bool.and_false]
       done)
    | (refine Leaf.mk ⟨i + 1, rfl, ⟨by omega, ?_⟩, by omega⟩
       rw [all_at' msg0 (by omega), he, Bool.true_and]; exact decide_eq_true ⟨by dsimp only [msg0] at *; omega, by dsimp only [msg0] at *; omega⟩)
    | (refine Leaf.mk (ret1 (show true = lightM xs most from ?_))
       rw [List.take_of_length_le (by omega)] at he
       rw [lightM, he, Bool.and_true, decide_eq_true (by omega)]
       done)
set_option synthInstance.maxHeartbeats 400000
instance decM1 : DecidableEq (Bool × List UInt8) := inferInstance
instance decM2 : DecidableEq (Int × Bool × List UInt8) := inferInstance
instance decM3 : DecidableEq (Int × Int × Bool × List UInt8) := inferInstance
instance decM4 : DecidableEq (List UInt8 × Int × Int × Bool × List UInt8) := inferInstance
instance decMsg : DecidableEq Msg := inferInstanceAs (DecidableEq (Int × List UInt8 × Int × Int × Bool × List UInt8))
end Go.Proofs.Ytkmfjlfejdoehaa
