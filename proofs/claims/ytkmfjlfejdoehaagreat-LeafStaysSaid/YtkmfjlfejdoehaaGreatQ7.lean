import Derived.Test.YtkmfjlfejdoehaaGreatQ6
/- Texts, one behind the other. -/
set_option linter.unusedVariables false
set_option linter.unusedSimpArgs false
namespace Go.Proofs.YtkmfjlfejdoehaaGreat
open Go.Eng
abbrev ver0 : Ver := (0, 0, false, [])
def inB (n : Int) : Bool := decide (0 ≤ n ∧ n ≤ 1099511627776)
def sIn : PSpec := ⟨[.d (.int .i64)], [⟨false, [.d .bool]⟩], fun _ => True, fun x => ((inB x.1, ()), ())⟩
theorem fIn : FnOk Tryz.prog 197 := ⟨_, Tryz.func197, by decide, rfl⟩
theorem pIn : PSound Tryz.prog 197 sIn := by
  refine psound (T := tab) (S := (spOf [])) (keep := k197) (by kernel_rfl) tabOk spNil (by kernel_rfl) Tryz.func197 (by kernel_rfl) (by decide) fun xs hg hp => ?_
  obtain ⟨n, ⟨⟩⟩ := xs
  change Int at n
  show vfun tab _ k197 Tryz.f197 [.i .i64 n] [] _
  refine Ev.out ?_
  repeat' (first | ((with_reducible refine Ev.mk ?_); conv => whnf) | (with_reducible refine And.intro ?_ ?_) | (intro h))
  all_goals (try simp only [decide_eq_true_eq, decide_eq_false_iff_not, beq_iff_eq, bne_iff_ne, beq_eq_false_iff_ne, bne_eq_false_iff_eq, Int.toNat_natCast, ge_iff_le, gt_iff_lt, Bool.not_eq_true', Bool.not_eq_false', Int.not_lt, Int.not_le, ne_eq] at *)
  all_goals (try dsimp only [Ty.den, Ty.dflt, VerT] at *)
  all_goals (try simp only [eq4, ne4, eq3, ne3, eq2, ne2, Prod.eta, List.length_cons, List.length_nil, List.length_append, Nat.zero_add] at *)
  all_goals (try simp (disch := omega) only [wrap64] at *)
  all_goals
    refine Leaf.mk (ret1 (show _ = inB n from ?_))
    simp only [inB]
    first
    | (rw [decide_eq_false (p := 0 ≤ n ∧ n ≤ 1099511627776) (by omega)]; done)
    | (congr 1; simp only [eq_iff_iff]; omega)
def verC (v : Ver) : Int := if 24 < v.2.2.2.length then 5 else if v.2.2.1 = true ∧ v.2.2.2 ≠ [] then 4 else if inB v.1 = true ∧ inB v.2.1 = true then 0 else 9
def sVersion : PSpec := ⟨[.d VerT], [⟨false, [.d (.int .i64)]⟩], fun _ => True, fun x => ((verC x.1, ()), ())⟩
theorem fVersion : FnOk Tryz.prog 150 := ⟨_, Tryz.func150, by decide, rfl⟩
theorem pVersion : PSound Tryz.prog 150 sVersion := by
  refine psound (T := tab) (S := (spOf [(197, sIn.spec (lsOf []))])) (keep := k150) (by kernel_rfl) tabOk (spCons (pOk pIn fIn (by decide) lsNil) spNil) (by kernel_rfl) Tryz.func150 (by kernel_rfl) (by decide) fun xs hg hp => ?_
  obtain ⟨⟨txn, ts, gone, val⟩, ⟨⟩⟩ := xs
  obtain ⟨⟨hg1, hg2, -, hl⟩, -⟩ := hg
  change List UInt8 at val
  change Int at txn
  change Int at ts
  change Bool at gone
  change val.length ≤ maxLen at hl
  have hl := len63 hl
  show vfun tab _ k150 Tryz.f150 [.agg [.i .i64 txn, .i .i64 ts, .b gone, .s val]] [] _
  refine Ev.out ?_
  repeat' (first | ((with_reducible refine Ev.mk ?_); conv => whnf) | (with_reducible refine And.intro ?_ ?_) | (intro h))
  all_goals (try simp only [decide_eq_true_eq, decide_eq_false_iff_not, beq_iff_eq, bne_iff_ne, beq_eq_false_iff_ne, bne_eq_false_iff_eq, Int.toNat_natCast, ge_iff_le, gt_iff_lt, Bool.not_eq_true', Bool.not_eq_false', Int.not_lt, Int.not_le, ne_eq] at *)
  all_goals (try dsimp only [Ty.den, Ty.dflt, VerT, sIn] at *)
  all_goals (try simp only [eq4, ne4, eq3, ne3, eq2, ne2, Prod.eta, List.length_cons, List.length_nil, List.length_append, Nat.zero_add] at *)
  all_goals (try simp (disch := omega) only [wrap64] at *)
  all_goals try first | exact leafDraw (by kernel_rfl) | exact Leaf.mk trivial | (refine Leaf.mk ?_; omega) | (refine Leaf.mk ?_; unfold maxLen; omega)
  all_goals
    refine Leaf.mk (ret1 (show (_ : Int) = verC (txn, ts, gone, val) from ?_))
    simp only [verC]
    first
    | (rw [if_pos (show 24 < val.length by omega)]; done)
    | (rw [if_neg (show ¬ 24 < val.length by omega)]; simp_all)
def ordered1 (v : Ver) : Bool := v.2.1 == 0
def lOrdered1 : LSpec := ⟨VerT, .bool, [], fun v _ => ordered1 v⟩
theorem fOrdered1 : FnOk Tryz.prog 199 := ⟨_, Tryz.func199, by decide, rfl⟩
theorem pOrdered1 : PSound Tryz.prog 199 lOrdered1.p := by
  refine psound (T := tab) (S := (spOf [])) (keep := k199) (by kernel_rfl) tabOk spNil (by kernel_rfl) Tryz.func199 (by kernel_rfl) (by decide) fun xs hg hp => ?_
  obtain ⟨⟨txn, ts, gone, val⟩, ⟨⟩⟩ := xs
  show vfun tab _ k199 Tryz.f199 [.agg [.i .i64 txn, .i .i64 ts, .b gone, .s val]] [] _
  refine Ev.out ?_
  repeat' (first | ((with_reducible refine Ev.mk ?_); conv => whnf) | (with_reducible refine And.intro ?_ ?_) | (intro h))
  exact Leaf.mk rfl
def firstZ (xs : List Ver) : Nat := if idxF ordered1 xs 0 < 0 then xs.length else (idxF ordered1 xs 0).toNat
def OrdA (xs : List Ver) (n : Nat) : Prop := ∀ j, j < n → 1 ≤ j → (xs.getD (j - 1) ver0).2.1 ≤ (xs.getD j ver0).2.1
def OrdB : List Ver → List Int → Prop
  | [], _ => True
  | v :: r, l => v.2.1 = 0 ∧ v.1 ∉ l ∧ OrdB r (v.1 :: l)
instance : ∀ (xs : List Ver) (l : List Int), Decidable (OrdB xs l)
  | [], _ => .isTrue trivial
  | v :: r, l => by
    have := instDecidableOrdB r (v.1 :: l)
    unfold OrdB
    exact inferInstance
instance (xs : List Ver) (n : Nat) : Decidable (OrdA xs n) := by unfold OrdA; exact inferInstance
def ordered (xs : List Ver) : Bool := decide (OrdA xs (firstZ xs) ∧ OrdB (xs.drop (firstZ xs)) [])
def sOrdered : PSpec := ⟨[.d (.slice VerT)], [⟨false, [.d .bool]⟩], fun _ => True, fun x => ((ordered x.1, ()), ())⟩
theorem OrdB_at {xs : List Ver} {m : Nat} {l : List Int} (h : m < xs.length) : OrdB (xs.drop m) l ↔ (xs.getD m ver0).2.1 = 0 ∧ (xs.getD m ver0).1 ∉ l ∧ OrdB (xs.drop (m + 1)) ((xs.getD m ver0).1 :: l) := by
  rw [drop_at ver0 h, OrdB]
theorem OrdA_le {xs : List Ver} {n i : Nat} (h : OrdA xs i) (hn : n ≤ i) : OrdA xs n := fun j hj h1 => h j (by omega) h1
theorem fOrdered : FnOk Tryz.prog 151 := ⟨_, Tryz.func151, by decide, rfl⟩
theorem pOrdered : PSound Tryz.prog 151 sOrdered := by
  refine psound (T := tab) (S := (spOf [(198, sIndexFunc.spec (lsOf [(199, lOrdered1)]))])) (keep := k151) (by kernel_rfl) tabOk (spCons (pOk pIndexFunc fIndexFunc (by decide) ((lsCons ⟨pOrdered1, fOrdered1⟩ lsNil))) spNil) (by kernel_rfl) Tryz.func151 (by kernel_rfl) (by decide) fun xs hg hp => ?_
  obtain ⟨xs, ⟨⟩⟩ := xs
  obtain ⟨⟨hl, hx⟩, -⟩ := hg
  change List Ver at xs
  change xs.length ≤ _ at hl
  have hl := len63 hl
  clear hp
  have hz := idxF_pos ordered1 xs 0
  show vfun tab _ k151 Tryz.f151 [.sl VerT xs] [] _
  refine Ev.out ?_
  repeat' (first | ((with_reducible refine Ev.mk ?_); conv => whnf) | (with_reducible refine And.intro ?_ ?_) | (intro h))
  all_goals (try simp only [decide_eq_true_eq, decide_eq_false_iff_not, beq_iff_eq, bne_iff_ne, beq_eq_false_iff_ne, bne_eq_false_iff_eq, Int.toNat_natCast, ge_iff_le, gt_iff_lt, Bool.not_eq_true', Bool.not_eq_false', Int.not_lt, Int.not_le, ne_eq] at *)
  all_goals (try dsimp only [Ty.den, Ty.dflt, VerT, sIndexFunc] at *)
  all_goals (try simp only [eq4, ne4, eq3, ne3, eq2, ne2, Prod.eta, List.length_cons, List.length_nil, List.length_append, Nat.zero_add] at *)
  all_goals (try simp (disch := omega) only [wrap64] at *)
  all_goals try first | exact leafDraw (by kernel_rfl) | exact Leaf.mk trivial | (refine Leaf.mk ?_; omega) | (refine Leaf.mk ?_; unfold maxLen; omega)
  all_goals
    obtain ⟨n, hn⟩ : ∃ n : Nat, firstZ xs = n := ⟨_, rfl⟩
    have hle : n ≤ xs.length := by rw [← hn]; unfold firstZ; split <;> omega
  · have h1 : xs.length = n := by rw [← hn]; exact (if_pos h).symm
    refine LoopVC.on (fun i : Nat => [(3, .i .i64 n), (4, .i .i64 i)]) (fun _ => []) (fun i => 1 ≤ i ∧ OrdA xs i) (fun i => n - i) 1 (by rw [← h1]; rfl) ⟨by omega, fun j hj hj1 => by omega⟩ ?_
    intro i ⟨hi, he⟩
    repeat' (first | ((with_reducible refine Ev.mk ?_); conv => whnf) | (with_reducible refine And.intro ?_ ?_) | (intro h))
    all_goals (try simp only [decide_eq_true_eq, decide_eq_false_iff_not, beq_iff_eq, bne_iff_ne, beq_eq_false_iff_ne, bne_eq_false_iff_eq, Int.toNat_natCast, ge_iff_le, gt_iff_lt, Bool.not_eq_true', Bool.not_eq_false', Int.not_lt, Int.not_le, ne_eq] at *)
    all_goals (try dsimp only [Ty.den, Ty.dflt, VerT] at *)
    all_goals (try simp only [eq4, ne4, eq3, ne3, eq2, ne2, Prod.eta, List.length_cons, List.length_nil, List.length_append, Nat.zero_add] at *)
    all_goals (try simp (disch := omega) only [wrap64] at *)
    all_goals try first | exact leafDraw (by kernel_rfl) | exact Leaf.mk trivial | (refine Leaf.mk ?_; omega) | (refine Leaf.mk ?_; unfold maxLen; omega)
    all_goals first
      | (refine Leaf.mk (ret1 (show false = ordered xs from ?_))
         rw [eq_comm]; refine decide_eq_false fun hc => ?_
         have := hc.1 i (by omega) (by omega)
         rw [show ((i : Int) - 1).toNat = i - 1 by omega] at h
         dsimp only [ver0] at this
         omega)
      | (refine Leaf.mk ⟨i + 1, rfl, ⟨by omega, fun j hj h1 => ?_⟩, by omega⟩
         by_cases hji : j = i
         · subst hji
           rw [show ((j : Int) - 1).toNat = j - 1 by omega] at h
           exact h
         · exact he j (by omega) h1)
      | skip
    have he := OrdA_le he (show n ≤ i by omega)
    rw [List.take_length]
    obtain ⟨D, hD⟩ : ∃ D, xs.drop n = D := ⟨_, rfl⟩
    rw [hD]
    have hDl : D.length ≤ 9223372036854775807 := by rw [← hD]; simp; omega
    refine LoopVC.on (fun a : Nat × List (Int × Bool) => [(36, .i .i64 a.1)]) (fun a => [(0, .map (.int .i64) .bool a.2)]) (fun a => a.1 ≤ D.length ∧ ∃ s : List Int, (∀ c, mapGet (.int .i64) c false a.2 = true ↔ c ∈ s) ∧ (ordered xs = true ↔ OrdB (D.drop a.1) s)) (fun a => D.length - a.1) (0, []) rfl ⟨by simp, [], fun c => by simp [mapGet], ?_⟩ ?_
    · simp only [ordered, decide_eq_true_eq, hn, hD, he, true_and, List.drop_zero]
    intro ⟨m, l⟩ ⟨hm, s, hs, ho⟩
    dsimp only at hm hs ho ⊢
    repeat' (first | ((with_reducible refine Ev.mk ?_); conv => whnf) | (with_reducible refine And.intro ?_ ?_) | (intro h))
    all_goals (try simp only [decide_eq_true_eq, decide_eq_false_iff_not, beq_iff_eq, bne_iff_ne, beq_eq_false_iff_ne, bne_eq_false_iff_eq, Int.toNat_natCast, ge_iff_le, gt_iff_lt, Bool.not_eq_true', Bool.not_eq_false', Int.not_lt, Int.not_le, ne_eq] at *)
    all_goals (try dsimp only [Ty.den, Ty.dflt, VerT] at *)
    all_goals (try simp only [eq4, ne4, eq3, ne3, eq2, ne2, Prod.eta, List.length_cons, List.length_nil, List.length_append, Nat.zero_add] at *)
    all_goals (try simp (disch := omega) only [wrap64] at *)
    all_goals try first | exact leafDraw (by kernel_rfl) | exact Leaf.mk trivial | (refine Leaf.mk ?_; omega) | (refine Leaf.mk ?_; unfold maxLen; omega)
    change m ≤ D.length at hm
    all_goals first
      | (rw [drop_end (show D.length ≤ m by omega)] at ho
         exact Leaf.mk (ret1 (show true = ordered xs from (ho.2 trivial).symm)))
      | (rw [OrdB_at (by omega)] at ho
         refine Leaf.mk (ret1 (show false = ordered xs from ?_))
         rw [eq_comm, ← Bool.not_eq_true, ho]
         intro hc
         first | exact h hc.1 | exact hc.2.1 ((hs _).1 (by assumption)))
      | (rw [OrdB_at (by omega)] at ho
         refine Leaf.mk ⟨(m + 1, _), rfl, ⟨by show m + 1 ≤ _; omega, (D.getD m ver0).1 :: s, fun c => ?_, ?_⟩, by show _ - (m + 1) < _; omega⟩
         · show mapGet (.int .i64) c false (mapPut (.int .i64) (D.getD m ver0).1 true l) = true ↔ _
           rw [mapGet_put keyEq_int, List.mem_cons]
           split
           · rename_i hk; simp [(keyEq_int _ _).1 hk]
           · rename_i hk
             rw [keyEq_int] at hk
             rw [hs]
             exact ⟨Or.inr, fun hh => hh.elim (fun e => absurd e hk) id⟩
         · rw [ho]
           refine ⟨fun hc => hc.2.2, fun hc => ⟨h, fun hin => ?_, hc⟩⟩
           have hq := (hs _).2 hin
           exact Bool.noConfusion (hq.symm.trans ‹mapGet (.int .i64) _ false l = false›))
  · have h1 : idxF ordered1 xs 0 = n := by rw [← hn]; show _ = ((if idxF ordered1 xs 0 < 0 then xs.length else (idxF ordered1 xs 0).toNat : Nat) : Int); rw [if_neg (show ¬ idxF ordered1 xs 0 < 0 from Int.not_lt.2 h)]; have h : 0 ≤ idxF ordered1 xs 0 := h; omega
    refine LoopVC.on (fun i : Nat => [(3, .i .i64 n), (4, .i .i64 i)]) (fun _ => []) (fun i => 1 ≤ i ∧ OrdA xs i) (fun i => n - i) 1 (by rw [← h1]; rfl) ⟨by omega, fun j hj hj1 => by omega⟩ ?_
    intro i ⟨hi, he⟩
    repeat' (first | ((with_reducible refine Ev.mk ?_); conv => whnf) | (with_reducible refine And.intro ?_ ?_) | (intro h))
    all_goals (try simp only [decide_eq_true_eq, decide_eq_false_iff_not, beq_iff_eq, bne_iff_ne, beq_eq_false_iff_ne, bne_eq_false_iff_eq, Int.toNat_natCast, ge_iff_le, gt_iff_lt, Bool.not_eq_true', Bool.not_eq_false', Int.not_lt, Int.not_le, ne_eq] at *)
    all_goals (try dsimp only [Ty.den, Ty.dflt, VerT] at *)
    all_goals (try simp only [eq4, ne4, eq3, ne3, eq2, ne2, Prod.eta, List.length_cons, List.length_nil, List.length_append, Nat.zero_add] at *)
    all_goals (try simp (disch := omega) only [wrap64] at *)
    all_goals try first | exact leafDraw (by kernel_rfl) | exact Leaf.mk trivial | (refine Leaf.mk ?_; omega) | (refine Leaf.mk ?_; unfold maxLen; omega)
    all_goals first
      | (refine Leaf.mk (ret1 (show false = ordered xs from ?_))
         rw [eq_comm]; refine decide_eq_false fun hc => ?_
         have := hc.1 i (by omega) (by omega)
         rw [show ((i : Int) - 1).toNat = i - 1 by omega] at h
         dsimp only [ver0] at this
         omega)
      | (refine Leaf.mk ⟨i + 1, rfl, ⟨by omega, fun j hj h1 => ?_⟩, by omega⟩
         by_cases hji : j = i
         · subst hji
           rw [show ((j : Int) - 1).toNat = j - 1 by omega] at h
           exact h
         · exact he j (by omega) h1)
      | skip
    have he := OrdA_le he (show n ≤ i by omega)
    rw [List.take_length]
    obtain ⟨D, hD⟩ : ∃ D, xs.drop n = D := ⟨_, rfl⟩
    rw [hD]
    have hDl : D.length ≤ 9223372036854775807 := by rw [← hD]; simp; omega
    refine LoopVC.on (fun a : Nat × List (Int × Bool) => [(36, .i .i64 a.1)]) (fun a => [(0, .map (.int .i64) .bool a.2)]) (fun a => a.1 ≤ D.length ∧ ∃ s : List Int, (∀ c, mapGet (.int .i64) c false a.2 = true ↔ c ∈ s) ∧ (ordered xs = true ↔ OrdB (D.drop a.1) s)) (fun a => D.length - a.1) (0, []) rfl ⟨by simp, [], fun c => by simp [mapGet], ?_⟩ ?_
    · simp only [ordered, decide_eq_true_eq, hn, hD, he, true_and, List.drop_zero]
    intro ⟨m, l⟩ ⟨hm, s, hs, ho⟩
    dsimp only at hm hs ho ⊢
    repeat' (first | ((with_reducible refine Ev.mk ?_); conv => whnf) | (with_reducible refine And.intro ?_ ?_) | (intro h))
    all_goals (try simp only [decide_eq_true_eq, decide_eq_false_iff_not, beq_iff_eq, bne_iff_ne, beq_eq_false_iff_ne, bne_eq_false_iff_eq, Int.toNat_natCast, ge_iff_le, gt_iff_lt, Bool.not_eq_true', Bool.not_eq_false', Int.not_lt, Int.not_le, ne_eq] at *)
    all_goals (try dsimp only [Ty.den, Ty.dflt, VerT] at *)
    all_goals (try simp only [eq4, ne4, eq3, ne3, eq2, ne2, Prod.eta, List.length_cons, List.length_nil, List.length_append, Nat.zero_add] at *)
    all_goals (try simp (disch := omega) only [wrap64] at *)
    all_goals try first | exact leafDraw (by kernel_rfl) | exact Leaf.mk trivial | (refine Leaf.mk ?_; omega) | (refine Leaf.mk ?_; unfold maxLen; omega)
    change m ≤ D.length at hm
    all_goals first
      | (rw [drop_end (show D.length ≤ m by omega)] at ho
         exact Leaf.mk (ret1 (show true = ordered xs from (ho.2 trivial).symm)))
      | (rw [OrdB_at (by omega)] at ho
         refine Leaf.mk (ret1 (show false = ordered xs from ?_))
         rw [eq_comm, ← Bool.not_eq_true, ho]
         intro hc
         first | exact h hc.1 | exact hc.2.1 ((hs _).1 (by assumption)))
      | (rw [OrdB_at (by omega)] at ho
         refine Leaf.mk ⟨(m + 1, _), rfl, ⟨by show m + 1 ≤ _; omega, (D.getD m ver0).1 :: s, fun c => ?_, ?_⟩, by show _ - (m + 1) < _; omega⟩
         · show mapGet (.int .i64) c false (mapPut (.int .i64) (D.getD m ver0).1 true l) = true ↔ _
           rw [mapGet_put keyEq_int, List.mem_cons]
           split
           · rename_i hk; simp [(keyEq_int _ _).1 hk]
           · rename_i hk
             rw [keyEq_int] at hk
             rw [hs]
             exact ⟨Or.inr, fun hh => hh.elim (fun e => absurd e hk) id⟩
         · rw [ho]
           refine ⟨fun hc => hc.2.2, fun hc => ⟨h, fun hin => ?_, hc⟩⟩
           have hq := (hs _).2 hin
           exact Bool.noConfusion (hq.symm.trans ‹mapGet (.int .i64) _ false l = false›))
end Go.Proofs.YtkmfjlfejdoehaaGreat

set_option linter.unusedVariables false
set_option linter.unusedSimpArgs false
namespace Go.Proofs.YtkmfjlfejdoehaaGreat
open Go.Eng
def firstBad : List Ver → Int
  | [] => 0
  | v :: r => if verC v = 0 then firstBad r else verC v
def check (s : Stk) : Int := if 16 < s.1.length then 5 else if 8 < s.2.length then 7 else if firstBad s.2 = 0 then (if ordered s.2 = true then 0 else 12) else firstBad s.2
def sCheck : PSpec := ⟨[.d StT], [⟨false, [.d (.int .i64)]⟩], fun _ => True, fun x => ((check x.1, ()), ())⟩
theorem firstBad_at {xs : List Ver} {i : Nat} (h : i < xs.length) : firstBad (xs.drop i) = if verC (xs.getD i ver0) = 0 then firstBad (xs.drop (i + 1)) else verC (xs.getD i ver0) := by
  rw [drop_at ver0 h, firstBad]
theorem fCheck : FnOk Tryz.prog 84 := ⟨_, Tryz.func84, by decide, rfl⟩
theorem pCheck : PSound Tryz.prog 84 sCheck := by
  refine psound (T := tab) (S := (spOf [(150, sVersion.spec (lsOf [])), (151, sOrdered.spec (lsOf []))])) (keep := k84) (by kernel_rfl) tabOk (spCons (pOk pVersion fVersion (by decide) lsNil) (spCons (pOk pOrdered fOrdered (by decide) lsNil) spNil)) (by kernel_rfl) Tryz.func84 (by kernel_rfl) (by decide) fun xs hg hp => ?_
  obtain ⟨⟨key, xs⟩, ⟨⟩⟩ := xs
  obtain ⟨⟨hk, hl, hx⟩, -⟩ := hg
  change List UInt8 at key
  change List Ver at xs
  change xs.length ≤ _ at hl
  have hl := len63 hl
  clear hp
  show vfun tab _ k84 Tryz.f84 [.agg [.s key, .sl VerT xs]] [] _
  refine Ev.out ?_
  repeat' (first | ((with_reducible refine Ev.mk ?_); conv => whnf) | (with_reducible refine And.intro ?_ ?_) | (intro h))
  all_goals (try simp only [decide_eq_true_eq, decide_eq_false_iff_not, beq_iff_eq, bne_iff_ne, beq_eq_false_iff_ne, bne_eq_false_iff_eq, Int.toNat_natCast, ge_iff_le, gt_iff_lt, Bool.not_eq_true', Bool.not_eq_false', Int.not_lt, Int.not_le, ne_eq] at *)
  all_goals (try dsimp only [Ty.den, Ty.dflt, VerT, sVersion, sOrdered] at *)
  all_goals (try simp only [eq4, ne4, eq3, ne3, eq2, ne2, Prod.eta, List.length_cons, List.length_nil, List.length_append, Nat.zero_add] at *)
  all_goals (try simp (disch := omega) only [wrap64] at *)
  all_goals try first | exact leafDraw (by kernel_rfl) | exact Leaf.mk trivial | (refine Leaf.mk ?_; omega) | (refine Leaf.mk ?_; unfold maxLen; omega)
  · refine Leaf.mk (ret1 (show (5 : Int) = check (key, xs) from ?_))
    rw [check, if_pos (show 16 < key.length by omega)]
  · refine Leaf.mk (ret1 (show (7 : Int) = check (key, xs) from ?_))
    rw [check, if_neg (show ¬ 16 < key.length by omega), if_pos (show 8 < xs.length by omega)]
  have hC : check (key, xs) = if firstBad xs = 0 then (if ordered xs = true then 0 else 12) else firstBad xs := by
    rw [check, if_neg (show ¬ 16 < key.length by omega), if_neg (show ¬ 8 < xs.length by omega)]
  refine LoopVC.on (fun i : Nat => [(19, .i .i64 i)]) (fun _ => []) (fun i => i ≤ xs.length ∧ firstBad xs = firstBad (xs.drop i)) (fun i => xs.length - i) 0 rfl ⟨by omega, rfl⟩ ?_
  intro i ⟨hi, he⟩
  repeat' (first | ((with_reducible refine Ev.mk ?_); conv => whnf) | (with_reducible refine And.intro ?_ ?_) | (intro h))
  all_goals (try simp only [decide_eq_true_eq, decide_eq_false_iff_not, beq_iff_eq, bne_iff_ne, beq_eq_false_iff_ne, bne_eq_false_iff_eq, Int.toNat_natCast, ge_iff_le, gt_iff_lt, Bool.not_eq_true', Bool.not_eq_false', Int.not_lt, Int.not_le, ne_eq] at *)
  all_goals (try dsimp only [Ty.den, Ty.dflt, VerT, sVersion, sOrdered] at *)
  all_goals (try simp only [eq4, ne4, eq3, ne3, eq2, ne2, Prod.eta, List.length_cons, List.length_nil, List.length_append, Nat.zero_add] at *)
  all_goals (try simp (disch := omega) only [wrap64] at *)
  all_goals try first | exact leafDraw (by kernel_rfl) | exact Leaf.mk trivial | (refine Leaf.mk ?_; omega) | (refine Leaf.mk ?_; unfold maxLen; omega)
  · rw [firstBad_at (by omega), if_neg (show ¬ verC (xs.getD i ver0) = 0 from h)] at he
    refine Leaf.mk (ret1 (show verC (xs.getD i ver0) = check (key, xs) from ?_))
    rw [hC, he, if_neg (show ¬ verC (xs.getD i ver0) = 0 from h)]
  · rw [firstBad_at (by omega), if_pos (show verC (xs.getD i ver0) = 0 from h)] at he
    exact Leaf.mk ⟨i + 1, rfl, ⟨by omega, he⟩, by omega⟩
  · rw [drop_end (by omega)] at he
    refine Leaf.mk (ret1 (show (12 : Int) = check (key, xs) from ?_))
    rw [hC, if_pos (show firstBad xs = 0 from he), if_neg (by rw [h]; simp)]
  · rw [drop_end (by omega)] at he
    refine Leaf.mk (ret1 (show (0 : Int) = check (key, xs) from ?_))
    rw [hC, if_pos (show firstBad xs = 0 from he), if_pos h]
def sCloneV : PSpec := ⟨[.d (.slice VerT)], [⟨false, [.o 121 VerT]⟩], fun x => x.1.length ≤ 1000000, fun x => ((x.1, ()), ())⟩
theorem fCloneV : FnOk Tryz.prog 129 := ⟨_, Tryz.func129, by decide, rfl⟩
theorem pCloneV : PSound Tryz.prog 129 sCloneV := by
  refine psound (T := tab) (S := (spOf [])) (keep := k129) (by kernel_rfl) tabOk spNil (by kernel_rfl) Tryz.func129 (by kernel_rfl) (by decide) fun xs hg hp => ?_
  obtain ⟨xs, ⟨⟩⟩ := xs
  obtain ⟨⟨hl, -⟩, -⟩ := hg
  change List Ver at xs
  clear hl
  change xs.length ≤ 1000000 at hp
  show vfun tab _ k129 Tryz.f129 [.sl VerT xs] [] _
  refine Ev.out ?_
  repeat' (first | ((with_reducible refine Ev.mk ?_); conv => whnf) | (with_reducible refine And.intro ?_ ?_) | (intro h))
  all_goals (try simp only [decide_eq_true_eq, decide_eq_false_iff_not, beq_iff_eq, bne_iff_ne, beq_eq_false_iff_ne, bne_eq_false_iff_eq, Int.toNat_natCast, ge_iff_le, gt_iff_lt, Bool.not_eq_true', Bool.not_eq_false', Int.not_lt, Int.not_le, ne_eq] at *)
  all_goals (try dsimp only [Ty.den, Ty.dflt, VerT] at *)
  all_goals (try simp only [eq4, ne4, eq3, ne3, eq2, ne2, Prod.eta, List.length_cons, List.length_nil, List.length_append, Nat.zero_add] at *)
  all_goals (try simp (disch := omega) only [wrap64] at *)
  all_goals try first | exact leafDraw (by kernel_rfl) | exact Leaf.mk trivial | (refine Leaf.mk ?_; omega) | (refine Leaf.mk ?_; unfold maxLen; omega)
  all_goals first
    | (refine Leaf.mk (ret1 (show ([] : List Ver) = xs from ?_)); exact (List.eq_nil_of_length_eq_zero (by omega)).symm)
    | exact Leaf.mk (ret1 rfl)
    | skip
def sOwn : PSpec := ⟨[.d StT], [⟨true, [.d .str, .o 121 VerT]⟩], fun x => List.length x.1.2 ≤ 1000000, fun x => ((x.1.1, (x.1.2, ())), ())⟩
theorem fOwn : FnOk Tryz.prog 183 := ⟨_, Tryz.func183, by decide, rfl⟩
theorem pOwn : PSound Tryz.prog 183 sOwn := by
  refine psound (T := tab) (S := (spOf [(129, sCloneV.spec (lsOf []))])) (keep := k183) (by kernel_rfl) tabOk (spCons (pOk pCloneV fCloneV (by decide) lsNil) spNil) (by kernel_rfl) Tryz.func183 (by kernel_rfl) (by decide) fun xs hg hp => ?_
  obtain ⟨⟨key, xs⟩, ⟨⟩⟩ := xs
  change List UInt8 at key
  change List Ver at xs
  change xs.length ≤ 1000000 at hp
  show vfun tab _ k183 Tryz.f183 [.agg [.s key, .sl VerT xs]] [] _
  refine Ev.out ?_
  repeat' (first | ((with_reducible refine Ev.mk ?_); conv => whnf) | (with_reducible refine And.intro ?_ ?_) | (intro h))
  all_goals (try simp only [decide_eq_true_eq, decide_eq_false_iff_not, beq_iff_eq, bne_iff_ne, beq_eq_false_iff_ne, bne_eq_false_iff_eq, Int.toNat_natCast, ge_iff_le, gt_iff_lt, Bool.not_eq_true', Bool.not_eq_false', Int.not_lt, Int.not_le, ne_eq] at *)
  all_goals (try dsimp only [Ty.den, Ty.dflt, VerT, sCloneV] at *)
  all_goals (try simp only [eq4, ne4, eq3, ne3, eq2, ne2, Prod.eta, List.length_cons, List.length_nil, List.length_append, Nat.zero_add] at *)
  all_goals (try simp (disch := omega) only [wrap64] at *)
  all_goals try first | exact leafDraw (by kernel_rfl) | exact Leaf.mk trivial | (refine Leaf.mk ?_; omega) | (refine Leaf.mk ?_; unfold maxLen; omega)
  exact Leaf.mk rfl
def lPlace1 : LSpec := ⟨VerT, .bool, [.bx (.int .i64)], fun v c => roomP c.1 v⟩
theorem fPlace1 : FnOk Tryz.prog 223 := ⟨_, Tryz.func223, by decide, rfl⟩
theorem pPlace1 : PSound Tryz.prog 223 lPlace1.p := by
  refine psound (T := tab) (S := (spOf [])) (keep := k223) (by kernel_rfl) tabOk spNil (by kernel_rfl) Tryz.func223 (by kernel_rfl) (by decide) fun xs hg hp => ?_
  obtain ⟨⟨txn, ts, gone, val⟩, me, ⟨⟩⟩ := xs
  show vfun tab _ k223 Tryz.f223 [.agg [.i .i64 txn, .i .i64 ts, .b gone, .s val], .rp [.i .i64 me]] [] _
  refine Ev.out ?_
  repeat' (first | ((with_reducible refine Ev.mk ?_); conv => whnf) | (with_reducible refine And.intro ?_ ?_) | (intro h))
  · exact Leaf.mk (ret1 (show (txn == me) = ((ts == 0) && (txn == me)) by rw [h]; rfl))
  · exact Leaf.mk (ret1 (show false = ((ts == 0) && (txn == me)) by rw [h]; rfl))
def sPlace : PSpec := ⟨[.d StT, .d (.int .i64)], [⟨false, [.d (.int .i64)]⟩], fun _ => True, fun x => ((idxF (roomP x.2.1) x.1.2 0, ()), ())⟩
theorem fPlace : FnOk Tryz.prog 184 := ⟨_, Tryz.func184, by decide, rfl⟩
theorem pPlace : PSound Tryz.prog 184 sPlace := by
  refine psound (T := tab) (S := (spOf [(198, sIndexFunc.spec (lsOf [(223, lPlace1)]))])) (keep := k184) (by kernel_rfl) tabOk (spCons (pOk pIndexFunc fIndexFunc (by decide) ((lsCons ⟨pPlace1, fPlace1⟩ lsNil))) spNil) (by kernel_rfl) Tryz.func184 (by kernel_rfl) (by decide) fun xs hg hp => ?_
  obtain ⟨⟨key, xs⟩, me, ⟨⟩⟩ := xs
  show vfun tab _ k184 Tryz.f184 [.agg [.s key, .sl VerT xs], .i .i64 me] [] _
  refine Ev.out ?_
  repeat' (first | ((with_reducible refine Ev.mk ?_); conv => whnf) | (with_reducible refine And.intro ?_ ?_) | (intro h))
  · exact Leaf.mk trivial
  · exact Leaf.mk rfl
theorem retS {k : List UInt8} {xs : List Ver} {s : Stk} (h : (k, xs) = s) : (some ((k, (xs, ())), ()) : Option ((List UInt8 × List Ver × Unit) × Unit)) = some ((s.1, (s.2, ())), ()) := by rw [← h]
def write (s : Stk) (v : Ver) : Stk :=
  if 0 ≤ idxF (roomP v.1) s.2 0 then (s.1, s.2.set (idxF (roomP v.1) s.2 0).toNat (v.1, 0, v.2.2)) else if s.2.length < 8 then (s.1, s.2 ++ [(v.1, 0, v.2.2)]) else s
def sWrite : PSpec := ⟨[.d StT, .d VerT], [⟨true, [.d .str, .o 121 VerT]⟩], fun x => List.length x.1.2 ≤ 100000, fun x => (((write x.1 x.2.1).1, ((write x.1 x.2.1).2, ())), ())⟩
theorem fWrite : FnOk Tryz.prog 133 := ⟨_, Tryz.func133, by decide, rfl⟩
theorem pWrite : PSound Tryz.prog 133 sWrite := by
  refine psound (T := tab) (S := (spOf [(183, sOwn.spec (lsOf [])), (184, sPlace.spec (lsOf []))])) (keep := k133) (by kernel_rfl) tabOk (spCons (pOk pOwn fOwn (by decide) lsNil) (spCons (pOk pPlace fPlace (by decide) lsNil) spNil)) (by kernel_rfl) Tryz.func133 (by kernel_rfl) (by decide) fun xs hg hp => ?_
  obtain ⟨⟨key, xs⟩, ⟨txn, ts, gone, val⟩, ⟨⟩⟩ := xs
  change List UInt8 at key
  change List Ver at xs
  change xs.length ≤ 100000 at hp
  have hz := idxF_pos (roomP txn) xs 0
  show vfun tab _ k133 Tryz.f133 [.agg [.s key, .sl VerT xs], .agg [.i .i64 txn, .i .i64 ts, .b gone, .s val]] [] _
  refine Ev.out ?_
  repeat' (first | ((with_reducible refine Ev.mk ?_); conv => whnf) | (with_reducible refine And.intro ?_ ?_) | (intro h))
  all_goals (try simp only [decide_eq_true_eq, decide_eq_false_iff_not, beq_iff_eq, bne_iff_ne, beq_eq_false_iff_ne, bne_eq_false_iff_eq, Int.toNat_natCast, ge_iff_le, gt_iff_lt, Bool.not_eq_true', Bool.not_eq_false', Int.not_lt, Int.not_le, ne_eq] at *)
  all_goals (try dsimp only [Ty.den, Ty.dflt, VerT, sOwn, sPlace] at *)
  all_goals (try simp only [eq4, ne4, eq3, ne3, eq2, ne2, Prod.eta, List.length_cons, List.length_nil, List.length_append, Nat.zero_add] at *)
  all_goals (try simp (disch := omega) only [wrap64] at *)
  all_goals try first | exact leafDraw (by kernel_rfl) | exact Leaf.mk trivial | (refine Leaf.mk ?_; omega) | (refine Leaf.mk ?_; unfold maxLen; omega)
  · refine Leaf.mk (retS (s := write (key, xs) (txn, ts, gone, val)) ?_)
    exact (if_pos h).symm
  · refine Leaf.mk (retS (s := write (key, xs) (txn, ts, gone, val)) ?_)
    exact ((if_neg (Int.not_le.2 ‹idxF (roomP txn) xs 0 < 0›)).trans (if_pos (show xs.length < 8 by omega))).symm
  · refine Leaf.mk (retS (s := write (key, xs) (txn, ts, gone, val)) ?_)
    exact ((if_neg (Int.not_le.2 ‹idxF (roomP txn) xs 0 < 0›)).trans (if_neg (show ¬ xs.length < 8 by omega))).symm
end Go.Proofs.YtkmfjlfejdoehaaGreat

set_option linter.unusedVariables false
set_option linter.unusedSimpArgs false
set_option maxRecDepth 8000
namespace Go.Proofs.YtkmfjlfejdoehaaGreat
open Go.Eng
def slotN (ts : Int) (ys : List Ver) : Nat → Nat
  | 0 => 0
  | n + 1 => if (ys.getD n ver0).2.1 = 0 ∨ ts < (ys.getD n ver0).2.1 then slotN ts ys n else n + 1
def cut (xs : List Ver) (i : Nat) : List Ver := xs.take i ++ xs.drop (i + 1)
def commit (s : Stk) (me ts : Int) : Stk :=
  if idxF (roomP me) s.2 0 < 0 ∨ ts < 1 then s else
    (s.1, (cut s.2 (idxF (roomP me) s.2 0).toNat).take (slotN ts (cut s.2 (idxF (roomP me) s.2 0).toNat) (cut s.2 (idxF (roomP me) s.2 0).toNat).length) ++ ([((s.2.getD (idxF (roomP me) s.2 0).toNat ver0).1, ts, (s.2.getD (idxF (roomP me) s.2 0).toNat ver0).2.2)] ++ (cut s.2 (idxF (roomP me) s.2 0).toNat).drop (slotN ts (cut s.2 (idxF (roomP me) s.2 0).toNat) (cut s.2 (idxF (roomP me) s.2 0).toNat).length)))
theorem slotN_le {ts : Int} {ys : List Ver} : ∀ (n : Nat), slotN ts ys n ≤ n
  | 0 => Nat.le_refl _
  | n + 1 => by
    have := slotN_le (ts := ts) (ys := ys) n
    unfold slotN
    split <;> omega
def sCommit : PSpec := ⟨[.d StT, .d (.int .i64), .d (.int .i64)], [⟨true, [.d .str, .o 121 VerT]⟩], fun x => List.length x.1.2 ≤ 100000, fun x => (((commit x.1 x.2.1 x.2.2.1).1, ((commit x.1 x.2.1 x.2.2.1).2, ())), ())⟩
theorem fCommit : FnOk Tryz.prog 130 := ⟨_, Tryz.func130, by decide, rfl⟩
theorem pCommit : PSound Tryz.prog 130 sCommit := by
  refine psound (T := tab) (S := (spOf [(183, sOwn.spec (lsOf [])), (184, sPlace.spec (lsOf [])), (185, sDeleteV.spec), (186, sInsertV.spec)])) (keep := k130) (by kernel_rfl) tabOk (spCons (pOk pOwn fOwn (by decide) lsNil) (spCons (pOk pPlace fPlace (by decide) lsNil) (spCons (.inl ⟨pDeleteV, fDeleteV⟩) (spCons (.inl ⟨pInsertV, fInsertV⟩) spNil)))) (by kernel_rfl) Tryz.func130 (by kernel_rfl) (by decide) fun xs hg hp => ?_
  obtain ⟨⟨key, xs⟩, me, ts, ⟨⟩⟩ := xs
  change List UInt8 at key
  change List Ver at xs
  change Int at me
  change Int at ts
  change xs.length ≤ 100000 at hp
  have hz := idxF_pos (roomP me) xs 0
  show vfun tab _ k130 Tryz.f130 [.agg [.s key, .sl VerT xs], .i .i64 me, .i .i64 ts] [] _
  refine Ev.out ?_
  repeat' (first | ((with_reducible refine Ev.mk ?_); conv => whnf) | (with_reducible refine And.intro ?_ ?_) | (intro h))
  all_goals (try simp only [decide_eq_true_eq, decide_eq_false_iff_not, beq_iff_eq, bne_iff_ne, beq_eq_false_iff_ne, bne_eq_false_iff_eq, Int.toNat_natCast, ge_iff_le, gt_iff_lt, Bool.not_eq_true', Bool.not_eq_false', Int.not_lt, Int.not_le, ne_eq] at *)
  all_goals (try dsimp only [Ty.den, Ty.dflt, VerT, sOwn, sPlace] at *)
  all_goals (try simp only [eq4, ne4, eq3, ne3, eq2, ne2, Prod.eta, List.length_cons, List.length_nil, List.length_append, Nat.zero_add] at *)
  all_goals (try simp (disch := omega) only [wrap64] at *)
  all_goals try first | exact leafDraw (by kernel_rfl) | exact Leaf.mk trivial | (refine Leaf.mk ?_; omega) | (refine Leaf.mk ?_; unfold maxLen; omega)
  · refine Leaf.mk (retS (s := commit (key, xs) me ts) ?_)
    exact (if_pos (.inl h)).symm
  · refine Leaf.mk (retS (s := commit (key, xs) me ts) ?_)
    exact (if_pos (.inr h)).symm
  · refine Leaf.mk (?_ : 0 ≤ idxF (roomP me) xs 0 ∧ idxF (roomP me) xs 0 ≤ idxF (roomP me) xs 0 + 1 ∧ idxF (roomP me) xs 0 + 1 ≤ (xs.length : Int) ∧ xs.length ≤ 1000000)
    omega
  obtain ⟨p, hp0⟩ := Int.eq_ofNat_of_zero_le (show 0 ≤ idxF (roomP me) xs 0 by omega)
  have hpl : p < xs.length := by omega
  have hC : commit (key, xs) me ts = (key, (cut xs p).take (slotN ts (cut xs p) (cut xs p).length) ++ ([((xs.getD p ver0).1, ts, (xs.getD p ver0).2.2)] ++ (cut xs p).drop (slotN ts (cut xs p) (cut xs p).length))) := by
    refine (if_neg (show ¬ (idxF (roomP me) xs 0 < 0 ∨ ts < 1) by omega)).trans ?_
    show (key, _) = _
    dsimp only
    rw [hp0, Int.toNat_natCast]
  have hD : sDeleteV.fn xs (idxF (roomP me) xs 0, idxF (roomP me) xs 0 + 1, ()) = cut xs p := by
    show xs.take (idxF (roomP me) xs 0).toNat ++ xs.drop (idxF (roomP me) xs 0 + 1).toNat = _
    rw [show (idxF (roomP me) xs 0).toNat = p by omega, show (idxF (roomP me) xs 0 + 1).toNat = p + 1 by omega]; rfl
  rw [show (idxF (roomP me) xs 0).toNat = p by omega]
  have hyl : (cut xs p).length ≤ 100000 := by simp [cut]; omega
  generalize hys : cut xs p = ys at *
  refine LoopVC.on (fun n : Nat => [(9, .i .i64 n)]) (fun _ => [(3, .arr 121 VerT ys)]) (fun n => n ≤ ys.length ∧ slotN ts ys ys.length = slotN ts ys n) (fun n => n) ys.length (by rw [← hD]; rfl) ⟨Nat.le_refl _, rfl⟩ ?_
  intro n ⟨hn, he⟩
  repeat' (first | ((with_reducible refine Ev.mk ?_); conv => whnf) | (with_reducible refine And.intro ?_ ?_) | (intro h))
  all_goals (try simp only [decide_eq_true_eq, decide_eq_false_iff_not, beq_iff_eq, bne_iff_ne, beq_eq_false_iff_ne, bne_eq_false_iff_eq, Int.toNat_natCast, ge_iff_le, gt_iff_lt, Bool.not_eq_true', Bool.not_eq_false', Int.not_lt, Int.not_le, ne_eq] at *)
  all_goals (try dsimp only [Ty.den, Ty.dflt, VerT] at *)
  all_goals (try simp only [eq4, ne4, eq3, ne3, eq2, ne2, Prod.eta, List.length_cons, List.length_nil, List.length_append, Nat.zero_add] at *)
  all_goals (try simp (disch := omega) only [wrap64] at *)
  all_goals try first | exact leafDraw (by kernel_rfl) | exact Leaf.mk trivial | (refine Leaf.mk ?_; omega) | (refine Leaf.mk ?_; unfold maxLen; omega)
  all_goals first
    | (refine Leaf.mk (?_ : (0 : Int) ≤ (n : Int) ∧ (n : Int) ≤ (ys.length : Int) ∧ ys.length + 1 ≤ 1000000); omega)
    | skip
  · obtain ⟨m, rfl⟩ : ∃ m, n = m + 1 := ⟨n - 1, by omega⟩
    have e : (((m + 1 : Nat) : Int) - 1).toNat = m := by omega
    rw [e] at h
    rw [show ((m + 1 : Nat) : Int) - 1 = (m : Nat) by omega]
    refine Leaf.mk ⟨m, rfl, ⟨by omega, ?_⟩, by omega⟩
    rw [he, slotN, if_pos (.inl h)]
  · obtain ⟨m, rfl⟩ : ∃ m, n = m + 1 := ⟨n - 1, by omega⟩
    have e : (((m + 1 : Nat) : Int) - 1).toNat = m := by omega
    rw [e] at h
    rw [show ((m + 1 : Nat) : Int) - 1 = (m : Nat) by omega]
    refine Leaf.mk ⟨m, rfl, ⟨by omega, ?_⟩, by omega⟩
    rw [he, slotN, if_pos (.inr h)]
  · obtain ⟨m, rfl⟩ : ∃ m, n = m + 1 := ⟨n - 1, by omega⟩
    have e : (((m + 1 : Nat) : Int) - 1).toNat = m := by omega
    rename_i hnz
    rw [e] at h hnz
    have hs : slotN ts ys ys.length = m + 1 := by
      rw [he, slotN, if_neg (fun hc => ?_)]
      rcases hc with hc | hc
      · exact hnz hc
      · exact absurd hc (Int.not_lt.2 h)
    refine Leaf.mk (retS (s := commit (key, xs) me ts) ?_)
    rw [hC, hs]
    rfl
  · obtain rfl : n = 0 := by omega
    have hs : slotN ts ys ys.length = 0 := by rw [he, slotN]
    refine Leaf.mk (retS (s := commit (key, xs) me ts) ?_)
    rw [hC, hs]
    rfl
def lastN (at' : Int) (xs : List Ver) : Nat → Int
  | 0 => -1
  | n + 1 => if okTs at' (xs.getD n ver0) = true then n else lastN at' xs n
def dropP (at' last : Int) (n : Nat) (v : Ver) : Bool := okTs at' v && ((n : Int) != last || v.2.2.1)
def keepN (at' last : Int) (xs : List Ver) : Nat → List Ver
  | 0 => []
  | n + 1 => keepN at' last xs n ++ (if dropP at' last n (xs.getD n ver0) = true then [] else [xs.getD n ver0])
def prune (s : Stk) (at' : Int) : Stk := (s.1, keepN at' (lastN at' s.2 s.2.length) s.2 s.2.length)
theorem keepN_le (at' last : Int) (xs : List Ver) : ∀ n, (keepN at' last xs n).length ≤ n
  | 0 => Nat.le_refl _
  | n + 1 => by
    have := keepN_le at' last xs n
    unfold keepN
    rw [List.length_append]
    split <;> simp <;> omega
theorem fPrune1 : FnOk Tryz.prog 189 := ⟨_, Tryz.func189, by decide, rfl⟩
noncomputable def iPrune1 : Eng.Spec := inl tab (spOf []) k189 Tryz.f189
theorem pPrune1 : SpecOk Tryz.prog 189 iPrune1 := inl_ok tabOk spNil (by kernel_rfl) Tryz.func189 (by kernel_rfl)
theorem fPrune2 : FnOk Tryz.prog 190 := ⟨_, Tryz.func190, by decide, rfl⟩
noncomputable def iPrune2 : Eng.Spec := inl tab (spOf [(189, iPrune1)]) k190 Tryz.f190
theorem pPrune2 : SpecOk Tryz.prog 190 iPrune2 := inl_ok tabOk (spCons (.inl ⟨pPrune1, fPrune1⟩) spNil) (by kernel_rfl) Tryz.func190 (by kernel_rfl)
theorem fWithoutV : FnOk Tryz.prog 187 := ⟨_, Tryz.func187, by decide, rfl⟩
noncomputable def iWithoutV : Eng.Spec := inl tab (spOf [(190, iPrune2)]) k187 Tryz.f187
theorem pWithoutV : SpecOk Tryz.prog 187 iWithoutV := inl_ok tabOk (spCons (.inl ⟨pPrune2, fPrune2⟩) spNil) (by kernel_rfl) Tryz.func187 (by kernel_rfl)
def sPrune : PSpec := ⟨[.d StT, .d (.int .i64)], [⟨true, [.d .str, .o 121 VerT]⟩], fun x => List.length x.1.2 ≤ 100000, fun x => (((prune x.1 x.2.1).1, ((prune x.1 x.2.1).2, ())), ())⟩
theorem fPrune : FnOk Tryz.prog 132 := ⟨_, Tryz.func132, by decide, rfl⟩
theorem pPrune : PSound Tryz.prog 132 sPrune := by
  refine psound (T := tab) (S := (spOf [(189, iPrune1), (187, iWithoutV)])) (keep := k132) (by kernel_rfl) tabOk (spCons (.inl ⟨pPrune1, fPrune1⟩) (spCons (.inl ⟨pWithoutV, fWithoutV⟩) spNil)) (by kernel_rfl) Tryz.func132 (by kernel_rfl) (by decide) fun xs hg hp => ?_
  obtain ⟨⟨key, xs⟩, at', ⟨⟩⟩ := xs
  change List UInt8 at key
  change List Ver at xs
  change Int at at'
  change xs.length ≤ 100000 at hp
  show vfun tab _ k132 Tryz.f132 [.agg [.s key, .sl VerT xs], .i .i64 at'] [] _
  refine Ev.out ?_
  repeat' (first | ((with_reducible refine Ev.mk ?_); conv => whnf) | (with_reducible refine And.intro ?_ ?_) | (intro h))
  all_goals (try simp only [decide_eq_true_eq, decide_eq_false_iff_not, beq_iff_eq, bne_iff_ne, beq_eq_false_iff_ne, bne_eq_false_iff_eq, Int.toNat_natCast, ge_iff_le, gt_iff_lt, Bool.not_eq_true', Bool.not_eq_false', Int.not_lt, Int.not_le, ne_eq] at *)
  all_goals (try dsimp only [Ty.den, Ty.dflt, VerT] at *)
  all_goals (try simp only [eq4, ne4, eq3, ne3, eq2, ne2, Prod.eta, List.length_cons, List.length_nil, List.length_append, Nat.zero_add] at *)
  all_goals (try simp (disch := omega) only [wrap64] at *)
  all_goals try first | exact leafDraw (by kernel_rfl) | exact Leaf.mk trivial | (refine Leaf.mk ?_; omega) | (refine Leaf.mk ?_; unfold maxLen; omega)
  refine LoopVC.on (fun i : Nat => [(13, .i .i64 i)]) (fun i => [(3, .box [.i .i64 (lastN at' xs i)])]) (fun i => i ≤ xs.length) (fun i => xs.length - i) 0 rfl (by omega) ?_
  intro i hi
  repeat' (first | ((with_reducible refine Ev.mk ?_); conv => whnf) | (with_reducible refine And.intro ?_ ?_) | (intro h))
  all_goals (try simp only [decide_eq_true_eq, decide_eq_false_iff_not, beq_iff_eq, bne_iff_ne, beq_eq_false_iff_ne, bne_eq_false_iff_eq, Int.toNat_natCast, ge_iff_le, gt_iff_lt, Bool.not_eq_true', Bool.not_eq_false', Int.not_lt, Int.not_le, ne_eq] at *)
  all_goals (try dsimp only [Ty.den, Ty.dflt, VerT] at *)
  all_goals (try simp only [eq4, ne4, eq3, ne3, eq2, ne2, Prod.eta, List.length_cons, List.length_nil, List.length_append, Nat.zero_add] at *)
  all_goals (try simp (disch := omega) only [wrap64] at *)
  all_goals try first | exact leafDraw (by kernel_rfl) | exact Leaf.mk trivial | (refine Leaf.mk ?_; omega) | (refine Leaf.mk ?_; unfold maxLen; omega)
  · refine Leaf.mk ⟨i + 1, ?_, by omega, by omega⟩
    rw [lastN, if_pos (show okTs at' (xs.getD i ver0) = true from decide_eq_true ⟨‹_›, ‹_›⟩)]; rfl
  · refine Leaf.mk ⟨i + 1, ?_, by omega, by omega⟩
    rw [lastN, if_neg (show ¬ okTs at' (xs.getD i ver0) = true from fun hc => by have := of_decide_eq_true hc; dsimp only [ver0] at *; omega)]; rfl
  · refine Leaf.mk ⟨i + 1, ?_, by omega, by omega⟩
    rw [lastN, if_neg (show ¬ okTs at' (xs.getD i ver0) = true from fun hc => by have := of_decide_eq_true hc; dsimp only [ver0] at *; omega)]; rfl
  have hil : i = xs.length := by omega
  clear h hi
  subst hil
  obtain ⟨last, hlast⟩ : ∃ last, lastN at' xs xs.length = last := ⟨_, rfl⟩
  have hP : prune (key, xs) at' = (key, keepN at' last xs xs.length) := by rw [← hlast]; rfl
  rw [hlast]
  refine LoopVC.weak [(.slot 5, .nil 121 VerT)] (fun i : Nat => [(10, .i .i64 i)]) (fun i => [(29, .arr 121 VerT (keepN at' last xs i))]) (fun i => i ≤ xs.length) (fun i => xs.length - i) 0 (Ev.mk ?_)
  (conv => whnf)
  refine ⟨Leaf.mk rfl, Leaf.mk ?_, ?_⟩
  · omega
  intro i hi
  have hk := keepN_le at' last xs i
  repeat' (first | ((with_reducible refine Ev.mk ?_); conv => whnf) | (with_reducible refine And.intro ?_ ?_) | (intro h))
  all_goals (try simp only [decide_eq_true_eq, decide_eq_false_iff_not, beq_iff_eq, bne_iff_ne, beq_eq_false_iff_ne, bne_eq_false_iff_eq, Int.toNat_natCast, ge_iff_le, gt_iff_lt, Bool.not_eq_true', Bool.not_eq_false', Int.not_lt, Int.not_le, ne_eq] at *)
  all_goals (try dsimp only [Ty.den, Ty.dflt, VerT] at *)
  all_goals (try simp only [eq4, ne4, eq3, ne3, eq2, ne2, Prod.eta, List.length_cons, List.length_nil, List.length_append, Nat.zero_add] at *)
  all_goals (try simp (disch := omega) only [wrap64] at *)
  all_goals try first | exact leafDraw (by kernel_rfl) | exact Leaf.mk trivial | (refine Leaf.mk ?_; omega) | (refine Leaf.mk ?_; unfold maxLen; omega)
  all_goals first
    | (have hil : i = xs.length := by omega
       subst hil
       refine Leaf.mk (retS (s := prune (key, xs) at') ?_)
       rw [hP])
    | (refine Leaf.mk ⟨i + 1, ?_, by omega, by omega⟩
       rw [keepN]
       first
       | (rw [if_pos (show dropP at' last i (xs.getD i ver0) = true from ?_), List.append_nil]
          · rfl
          · simp only [dropP, okTs, ver0, Bool.and_eq_true, Bool.or_eq_true, decide_eq_true_eq, bne_iff_ne]
            first | exact ⟨⟨‹_›, ‹_›⟩, .inl ‹_›⟩ | exact ⟨⟨‹_›, ‹_›⟩, .inr ‹_›⟩)
       | (rw [if_neg (show ¬ dropP at' last i (xs.getD i ver0) = true from ?_)]
          · rfl
          · simp only [dropP, okTs, ver0, Bool.and_eq_true, Bool.or_eq_true, decide_eq_true_eq, bne_iff_ne]
            intro hc
            first | omega | (rcases hc.2 with hc | hc; exact hc ‹_›; rw [hc] at h; cases h)))
end Go.Proofs.YtkmfjlfejdoehaaGreat

set_option linter.unusedVariables false
set_option linter.unusedSimpArgs false
set_option maxRecDepth 8000
namespace Go.Proofs.YtkmfjlfejdoehaaGreat
open Go.Eng
def sLeft : MSpec := ⟨[.m RP], [⟨false, [.d (.int .i64)]⟩], fun _ => True, fun x => (((List.length (α := Int) x.1.1 : Nat), ()), x.1, ())⟩
theorem fLeft : FnOk Tryz.prog 97 := ⟨_, Tryz.func97, by decide, rfl⟩
theorem pLeft : SpecOk Tryz.prog 97 sLeft.spec := by
  refine mOk (T := tab) (S := (spOf [])) (keep := k97m) tabOk spNil (by kernel_rfl) Tryz.func97 (by kernel_rfl) (by kernel_rfl) (by decide) fun xs hg hp => ?_
  obtain ⟨⟨b, e, ⟨⟩⟩, ⟨⟩⟩ := xs
  change List Int at b
  change Int at e
  show vfunM tab _ k97m Tryz.f97 [.ptr 0 0] [(0, .box [.sl (.int .u8) b, .i .i64 e])] _
  refine Ev.out ?_
  repeat' (first | ((with_reducible refine Ev.mk ?_); conv => whnf) | (with_reducible refine And.intro ?_ ?_) | (intro h))
  all_goals exact Leaf.mk rfl
def sBEqual : PSpec := ⟨[.d BT, .d BT], [⟨false, [.d .bool]⟩], fun _ => True, fun x => ((strOfBytes x.1 == strOfBytes x.2.1, ()), ())⟩
theorem fBEqual : FnOk Tryz.prog 99 := ⟨_, Tryz.func99, by decide, rfl⟩
theorem pBEqual : PSound Tryz.prog 99 sBEqual := by
  refine psound (T := tab) (S := (spOf [])) (keep := k99) (by kernel_rfl) tabOk spNil (by kernel_rfl) Tryz.func99 (by kernel_rfl) (by decide) fun xs hg hp => ?_
  obtain ⟨xs, ys, ⟨⟩⟩ := xs
  show vfun tab _ k99 Tryz.f99 [.sl (.int .u8) xs, .sl (.int .u8) ys] [] _
  refine Ev.out ?_
  repeat' (first | ((with_reducible refine Ev.mk ?_); conv => whnf) | (with_reducible refine And.intro ?_ ?_) | (intro h))
  all_goals exact Leaf.mk rfl
def sFlag : PSpec := ⟨[.d .bool], [⟨false, [.d (.int .u8)]⟩], fun _ => True, fun x => ((if x.1 = true then 1 else 0, ()), ())⟩
theorem fFlag : FnOk Tryz.prog 205 := ⟨_, Tryz.func205, by decide, rfl⟩
theorem pFlag : PSound Tryz.prog 205 sFlag := by
  refine psound (T := tab) (S := (spOf [])) (keep := k205) (by kernel_rfl) tabOk spNil (by kernel_rfl) Tryz.func205 (by kernel_rfl) (by decide) fun xs hg hp => ?_
  obtain ⟨g, ⟨⟩⟩ := xs
  change Bool at g
  show vfun tab _ k205 Tryz.f205 [.b g] [] _
  refine Ev.out ?_
  repeat' (first | ((with_reducible refine Ev.mk ?_); conv => whnf) | (with_reducible refine And.intro ?_ ?_) | (intro h))
  · exact Leaf.mk (ret1 (show (1 : Int) = if g = true then 1 else 0 by rw [if_pos h]))
  · exact Leaf.mk (ret1 (show (0 : Int) = if g = true then 1 else 0 by rw [if_neg (by rw [h]; simp)]))
def sVEqual : PSpec := ⟨[.d (.slice VerT), .d (.slice VerT)], [⟨false, [.d .bool]⟩], fun _ => True, fun x => ((decide ((x.1 : List Ver) = x.2.1), ()), ())⟩
theorem fVEqual : FnOk Tryz.prog 156 := ⟨_, Tryz.func156, by decide, rfl⟩
theorem pVEqual : PSound Tryz.prog 156 sVEqual := by
  refine psound (T := tab) (S := (spOf [])) (keep := k156) (by kernel_rfl) tabOk spNil (by kernel_rfl) Tryz.func156 (by kernel_rfl) (by decide) fun xs hg hp => ?_
  obtain ⟨xs, ys, ⟨⟩⟩ := xs
  obtain ⟨⟨hl, -⟩, ⟨hl2, -⟩, -⟩ := hg
  have hl := len63 hl
  have hl2 := len63 hl2
  change List Ver at xs ys
  change xs.length ≤ _ at hl
  change ys.length ≤ _ at hl2
  clear hp
  show vfun tab _ k156 Tryz.f156 [.sl VerT xs, .sl VerT ys] [] _
  refine Ev.out ?_
  repeat' (first | ((with_reducible refine Ev.mk ?_); conv => whnf) | (with_reducible refine And.intro ?_ ?_) | (intro h))
  all_goals (try simp only [decide_eq_true_eq, decide_eq_false_iff_not, beq_iff_eq, bne_iff_ne, beq_eq_false_iff_ne, bne_eq_false_iff_eq, Int.toNat_natCast, ge_iff_le, gt_iff_lt, Bool.not_eq_true', Bool.not_eq_false', Int.not_lt, Int.not_le, ne_eq] at *)
  all_goals (try dsimp only [Ty.den, Ty.dflt, VerT] at *)
  all_goals (try simp only [eq4, ne4, eq3, ne3, eq2, ne2, Prod.eta, List.length_cons, List.length_nil, List.length_append, Nat.zero_add] at *)
  all_goals (try simp (disch := omega) only [wrap64] at *)
  · refine Leaf.mk (ret1 (show false = decide (xs = ys) from ?_))
    rw [eq_comm, decide_eq_false_iff_not]; intro hc; subst hc; omega
  refine LoopVC.on (fun i : Nat => [(13, .i .i64 i)]) (fun _ => []) (fun i => i ≤ xs.length ∧ xs.take i = ys.take i) (fun i => xs.length - i) 0 rfl ⟨by omega, by simp⟩ ?_
  intro i ⟨hi, he⟩
  repeat' (first | ((with_reducible refine Ev.mk ?_); conv => whnf) | (with_reducible refine And.intro ?_ ?_) | (intro h))
  all_goals (try simp only [decide_eq_true_eq, decide_eq_false_iff_not, beq_iff_eq, bne_iff_ne, beq_eq_false_iff_ne, bne_eq_false_iff_eq, Int.toNat_natCast, ge_iff_le, gt_iff_lt, Bool.not_eq_true', Bool.not_eq_false', Int.not_lt, Int.not_le, ne_eq] at *)
  all_goals (try dsimp only [Ty.den, Ty.dflt, VerT] at *)
  all_goals (try simp only [eq4, ne4, eq3, ne3, eq2, ne2, Prod.eta, List.length_cons, List.length_nil, List.length_append, Nat.zero_add] at *)
  all_goals (try simp (disch := omega) only [wrap64] at *)
  all_goals try first | exact leafDraw (by kernel_rfl) | exact Leaf.mk trivial | (refine Leaf.mk ?_; omega) | (refine Leaf.mk ?_; unfold maxLen; omega)
  all_goals first
    | exact Leaf.mk (ret1 (show false = decide (xs = ys) by rw [eq_comm, decide_eq_false_iff_not]; exact same_not ver0 h))
    | exact Leaf.mk ⟨i + 1, rfl, ⟨by omega, same_step ver0 (by omega) he (by omega) h⟩, by omega⟩
    | exact Leaf.mk (ret1 (show true = decide (xs = ys) by rw [eq_comm, decide_eq_true_eq]; exact same_end (by omega) he (by omega)))
def sameS (a b : Stk) : Bool := decide (a = b)
def sSSame : PSpec := ⟨[.d StT, .d StT], [⟨false, [.d .bool]⟩], fun _ => True, fun x => ((sameS x.1 x.2.1, ()), ())⟩
theorem fSSame : FnOk Tryz.prog 91 := ⟨_, Tryz.func91, by decide, rfl⟩
theorem pSSame : PSound Tryz.prog 91 sSSame := by
  refine psound (T := tab) (S := (spOf [(156, sVEqual.spec (lsOf []))])) (keep := k91) (by kernel_rfl) tabOk (spCons (pOk pVEqual fVEqual (by decide) lsNil) spNil) (by kernel_rfl) Tryz.func91 (by kernel_rfl) (by decide) fun xs hg hp => ?_
  obtain ⟨⟨k, xs⟩, ⟨k2, ys⟩, ⟨⟩⟩ := xs
  change List UInt8 at k k2
  change List Ver at xs ys
  show vfun tab _ k91 Tryz.f91 [.agg [.s k, .sl VerT xs], .agg [.s k2, .sl VerT ys]] [] _
  refine Ev.out ?_
  repeat' (first | ((with_reducible refine Ev.mk ?_); conv => whnf) | (with_reducible refine And.intro ?_ ?_) | (intro h))
  all_goals (try simp only [decide_eq_true_eq, decide_eq_false_iff_not, beq_iff_eq, bne_iff_ne, beq_eq_false_iff_ne, bne_eq_false_iff_eq, Int.toNat_natCast, ge_iff_le, gt_iff_lt, Bool.not_eq_true', Bool.not_eq_false', Int.not_lt, Int.not_le, ne_eq] at *)
  all_goals (try dsimp only [Ty.den, Ty.dflt, VerT, sVEqual] at *)
  all_goals (try simp only [eq4, ne4, eq3, ne3, eq2, ne2, Prod.eta, List.length_cons, List.length_nil, List.length_append, Nat.zero_add] at *)
  all_goals (try simp (disch := omega) only [wrap64] at *)
  all_goals try first | exact leafDraw (by kernel_rfl) | exact Leaf.mk trivial | (refine Leaf.mk ?_; omega) | (refine Leaf.mk ?_; unfold maxLen; omega)
  all_goals first
    | exact Leaf.mk (ret1 (show decide (xs = ys) = decide ((k, xs) = (k2, ys)) by rw [h]; simp))
    | exact Leaf.mk (ret1 (show false = decide ((k, xs) = (k2, ys)) by rw [eq_comm, decide_eq_false_iff_not]; intro hc; exact h (congrArg Prod.fst hc)))
end Go.Proofs.YtkmfjlfejdoehaaGreat

set_option linter.unusedVariables false
set_option linter.unusedSimpArgs false
set_option maxRecDepth 8000
namespace Go.Proofs.YtkmfjlfejdoehaaGreat
open Go.Eng
theorem rdSmall_put {n : Int} (h0 : 0 ≤ n) (h1 : n ≤ 1099511627776) (r : List Int) : rdSmall (putSmall n ++ r) 0 = (n, r, 0) := by
  have hg := getSmall_put (n := n) (by omega) r
  rw [rdSmall, if_neg (by simp), hg]
  dsimp only
  rw [if_neg (by simp), if_neg (by omega), Int.toNat_natCast, List.drop_left']
  rfl
theorem rdText_put {k : List UInt8} {m : Int} (h0 : (k.length : Int) ≤ m) (r : List Int) : rdText (putText k ++ r) 0 m = (k, r, 0) := by
  have hg := getText_put k r
  rw [rdText, if_neg (by simp), hg]
  dsimp only
  rw [if_neg (by simp), if_neg (by split <;> omega), Int.toNat_natCast, List.drop_left']
  rfl
def putV (v : Ver) : List Int := putSmall v.1 ++ (putSmall v.2.1 ++ ((if v.2.2.1 = true then 1 else 0) :: putText v.2.2.2))
def putS (s : Stk) : List Int := putText s.1 ++ (putSmall s.2.length ++ s.2.flatMap putV)
structure VerOk (v : Ver) : Prop where
  val : v.2.2.2.length ≤ 24
  gone : v.2.2.1 = true → v.2.2.2 = []
  txn : 0 ≤ v.1 ∧ v.1 ≤ 1099511627776
  ts : 0 ≤ v.2.1 ∧ v.2.1 ≤ 1099511627776
theorem verC_ok {v : Ver} : verC v = 0 ↔ VerOk v := by
  unfold verC inB
  constructor
  · intro h
    split at h
    · omega
    split at h
    · omega
    split at h
    · rename_i h1 h2 h3
      refine ⟨by omega, fun hg => ?_, of_decide_eq_true h3.1, of_decide_eq_true h3.2⟩
      by_cases hv : v.2.2.2 = []
      · exact hv
      · exact absurd ⟨hg, hv⟩ h2
    · omega
  · intro h
    rw [if_neg (by have := h.val; omega), if_neg (fun hc => hc.2 (h.gone hc.1)), if_pos ⟨decide_eq_true h.txn, decide_eq_true h.ts⟩]
structure StkOk (s : Stk) : Prop where
  key : s.1.length ≤ 16
  len : s.2.length ≤ 8
  all : ∀ v ∈ s.2, VerOk v
  ord : ordered s.2 = true
theorem firstBad_iff (xs : List Ver) : firstBad xs = 0 ↔ ∀ v ∈ xs, VerOk v := by
  induction xs with
  | nil => simp [firstBad]
  | cons x r ih =>
    rw [firstBad]
    split
    · rename_i h
      rw [ih]
      simp [verC_ok.1 h]
    · rename_i h
      constructor
      · intro hc; exact absurd hc h
      · intro hc; exact absurd (verC_ok.2 (hc x (by simp))) h
theorem check_ok {s : Stk} : check s = 0 ↔ StkOk s := by
  unfold check
  constructor
  · intro h
    split at h
    · omega
    split at h
    · omega
    split at h
    · rename_i h1 h2 h3
      split at h
      · rename_i h4; exact ⟨by omega, by omega, (firstBad_iff _).1 h3, h4⟩
      · omega
    · rename_i h3; exact absurd h h3
  · intro h
    rw [if_neg (by have := h.key; omega), if_neg (by have := h.len; omega), if_pos ((firstBad_iff _).2 h.all), if_pos h.ord]
def takeL : Nat → Int → Int → List Int → Int → List Ver → List Int × Int × List Ver
  | 0, _, _, b, e, acc => (b, e, acc)
  | f + 1, n, i, b, e, acc =>
    if (i < n ∧ i ≤ 8) ∧ e = 0 then
      let t := rdSmall b e
      let u := rdSmall t.2.1 t.2.2
      let g : Bool × List Int := if u.2.2 = 0 ∧ 0 < u.2.1.length then (decide (u.2.1.getD 0 0 = 1), u.2.1.drop 1) else (false, u.2.1)
      let w := rdText g.2 u.2.2 24
      takeL f n (i + 1) w.2.1 w.2.2 (acc ++ [(t.1, u.1, g.1, w.1)])
    else (b, e, acc)
def takeF (b : List Int) (e : Int) : (List Int × Int) × Stk :=
  let t := rdText b e 16
  let n := rdSmall t.2.1 t.2.2
  let l := takeL 10 n.1 0 n.2.1 n.2.2 []
  ((l.1, l.2.1), (t.1, l.2.2))
theorem takeL_stop {n : Int} {i : Int} (f : Nat) (b : List Int) (e : Int) (acc : List Ver) (h : ¬ ((i < n ∧ i ≤ 8) ∧ e = 0)) : takeL f n i b e acc = (b, e, acc) := by
  cases f with
  | zero => rfl
  | succ f => rw [takeL, if_neg h]
theorem takeL_put (r : List Int) : ∀ (vs : List Ver) (f : Nat) (n i : Int) (acc : List Ver), (∀ v ∈ vs, VerOk v) → n = i + vs.length → n ≤ 8 → vs.length ≤ f → takeL f n i (vs.flatMap putV ++ r) 0 acc = (r, 0, acc ++ vs)
  | [], f, n, i, acc, _, hn, _, _ => by
    rw [takeL_stop _ _ _ _ (by simp at hn; omega)]; simp
  | v :: vs, 0, _, _, _, _, _, _, h => by simp at h
  | v :: vs, f + 1, n, i, acc, hv, hn, h8, hf => by
    have ok := hv v (by simp)
    simp only [List.length_cons] at hn hf
    rw [takeL, if_pos (by omega)]
    have hb : List.flatMap putV (v :: vs) ++ r = putSmall v.1 ++ (putSmall v.2.1 ++ ((if v.2.2.1 = true then 1 else 0) :: (putText v.2.2.2 ++ (vs.flatMap putV ++ r)))) := by
      simp [putV]
    rw [hb, rdSmall_put ok.txn.1 ok.txn.2]
    dsimp only
    rw [rdSmall_put ok.ts.1 ok.ts.2]
    dsimp only
    rw [if_pos ⟨rfl, by simp⟩]
    dsimp only
    rw [List.drop_one, List.tail_cons, rdText_put (by have := ok.val; omega)]
    dsimp only
    rw [takeL_put r vs f n (i + 1) _ (fun x hx => hv x (by simp [hx])) (by omega) h8 (by omega)]
    have hg : decide (((if v.2.2.1 = true then (1 : Int) else 0) :: (putText v.2.2.2 ++ (vs.flatMap putV ++ r))).getD 0 0 = 1) = v.2.2.1 := by
      cases v.2.2.1 <;> simp
    rw [hg, List.append_assoc]; rfl
theorem takeF_put {s : Stk} (h : check s = 0) (r : List Int) : takeF (putS s ++ r) 0 = ((r, 0), s) := by
  have ok := check_ok.1 h
  have hl := ok.len
  unfold takeF putS
  rw [List.append_assoc, rdText_put (by have := ok.key; omega)]
  dsimp only
  rw [List.append_assoc, rdSmall_put (by omega) (by omega)]
  dsimp only
  rw [takeL_put r s.2 10 s.2.length 0 [] ok.all (by omega) (by omega) (by omega)]
  rfl
def getS (b : List Int) : Stk × Int := if check (takeF b 0).2 = 0 ∧ putS (takeF b 0).2 = b then ((takeF b 0).2, 0) else (([], []), 4)
theorem getS_put {s : Stk} {b : List Int} (h : check s = 0) (hb : putS s = b) : getS b = (s, 0) := by
  subst hb
  have := takeF_put h []
  rw [List.append_nil] at this
  unfold getS
  rw [this, if_pos ⟨h, rfl⟩]
theorem getS_not {b : List Int} (h : ∀ s, check s = 0 → putS s ≠ b) : getS b = (([], []), 4) := by
  unfold getS
  rw [if_neg (fun hc => h _ hc.1 hc.2)]
theorem flat_len {α : Type} (f : Ver → List α) (m : Nat) : ∀ (l : List Ver), (∀ v ∈ l, (f v).length ≤ m) → (l.flatMap f).length ≤ l.length * m
  | [], _ => by simp
  | v :: r, h => by
    have h1 := h v (by simp)
    have h2 := flat_len f m r (fun x hx => h x (by simp [hx]))
    simp only [List.flatMap_cons, List.length_append, List.length_cons, Nat.add_mul, Nat.one_mul]
    omega
theorem putV_len {v : Ver} (h : VerOk v) : (putV v).length ≤ 69 := by
  have h1 := putSmall_len v.1
  have h2 := putSmall_len v.2.1
  have h3 := putText_len v.2.2.2
  have h4 := h.val
  simp only [putV, List.length_append, List.length_cons]; omega
theorem putS_len {s : Stk} (h : check s = 0) : (putS s).length ≤ 595 := by
  have ok := check_ok.1 h
  have h1 := putText_len s.1
  have h2 := putSmall_len s.2.length
  have h3 := flat_len putV 69 s.2 (fun v hv => putV_len (ok.all v hv))
  have := ok.key; have := ok.len
  have h4 : s.2.length * 69 ≤ 552 := by omega
  simp only [putS, List.length_append]; omega
theorem isB_V (v : Ver) : isB (putV v) := by
  refine isB_append (isB_small _) (isB_append (isB_small _) fun x hx => ?_)
  rcases List.mem_cons.1 hx with rfl | hx
  · split <;> omega
  · exact isB_put _ x hx
theorem isB_flat (l : List Ver) : isB (l.flatMap putV) := fun x hx => by
  obtain ⟨v, _, hv⟩ := List.mem_flatMap.1 hx
  exact isB_V v x hv
theorem isB_S (s : Stk) : isB (putS s) := isB_append (isB_put _) (isB_append (isB_small _) (isB_flat _))
end Go.Proofs.YtkmfjlfejdoehaaGreat

set_option linter.unusedVariables false
set_option linter.unusedSimpArgs false
set_option maxRecDepth 8000
set_option maxHeartbeats 4000000
namespace Go.Proofs.YtkmfjlfejdoehaaGreat
open Go.Eng
theorem wrapu {n : Int} (h : 0 ≤ n ∧ n ≤ 1099511627776) : IntKind.u64.wrap n = n := by rw [wrapU64]; omega
def putR11 (s : Stk) : List Int × Int := if check s = 0 then (putS s, 0) else ([], check s)
def sSPut : PSpec := ⟨[.d StT], [⟨false, [.d BT]⟩, ⟨false, [.d (.int .i64)]⟩], fun _ => True, fun x => (((putR11 x.1).1, ()), ((putR11 x.1).2, ()), ())⟩
theorem retB {u v : List Int × Int} (h : u = v) : (some ((u.1, ()), (u.2, ()), ()) : Option ((List Int × Unit) × (Int × Unit) × Unit)) = some ((v.1, ()), (v.2, ()), ()) := by rw [h]
theorem fSPut : FnOk Tryz.prog 157 := ⟨_, Tryz.func157, by decide, rfl⟩
theorem pSPut : PSound Tryz.prog 157 sSPut := by
  refine psound (T := tab) (S := (spOf [(84, sCheck.spec (lsOf [])), (203, sPutText.spec (lsOf [])), (153, sPutSmall.spec (lsOf [])), (205, sFlag.spec (lsOf [])), (204, sConcatB.spec (lsOf []))])) (keep := k157) (by kernel_rfl) tabOk (spCons (pOk pCheck fCheck (by decide) lsNil) (spCons (pOk pPutText fPutText (by decide) lsNil) (spCons (pOk pPutSmall fPutSmall (by decide) lsNil) (spCons (pOk pFlag fFlag (by decide) lsNil) (spCons (pOk pConcatB fConcatB (by decide) lsNil) spNil))))) (by kernel_rfl) Tryz.func157 (by kernel_rfl) (by decide) fun xs hg hp => ?_
  obtain ⟨⟨key, xs⟩, ⟨⟩⟩ := xs
  change List UInt8 at key
  change List Ver at xs
  clear hp hg
  show vfun tab _ k157 Tryz.f157 [.agg [.s key, .sl VerT xs]] [] _
  refine Ev.out ?_
  repeat' (first | ((with_reducible refine Ev.mk ?_); conv => whnf) | (with_reducible refine And.intro ?_ ?_) | (intro h))
  all_goals (try simp only [decide_eq_true_eq, decide_eq_false_iff_not, beq_iff_eq, bne_iff_ne, beq_eq_false_iff_ne, bne_eq_false_iff_eq, Int.toNat_natCast, ge_iff_le, gt_iff_lt, Bool.not_eq_true', Bool.not_eq_false', Int.not_lt, Int.not_le, ne_eq] at *)
  all_goals (try dsimp only [Ty.den, Ty.dflt, VerT, sCheck, sPutText, sPutSmall] at *)
  all_goals (try simp only [eq4, ne4, eq3, ne3, eq2, ne2, Prod.eta, List.length_cons, List.length_nil, List.length_append, Nat.zero_add] at *)
  all_goals (try simp (disch := omega) only [wrap64] at *)
  all_goals try first | exact leafDraw (by kernel_rfl) | exact Leaf.mk trivial | (refine Leaf.mk ?_; omega) | (refine Leaf.mk ?_; unfold maxLen; omega)
  · exact Leaf.mk (retB (u := ([], check (key, xs))) (if_neg h).symm)
  all_goals
    have ok := check_ok.1 ‹check (key, xs) = 0›
    have hk := ok.key
    have hl := ok.len
    dsimp only at hk hl
    have h1 := putText_len key
    have h2 := putSmall_len xs.length
  · exact Leaf.mk (show key.length ≤ 100000 by omega)
  all_goals rw [wrapu (by omega)]
  · exact Leaf.mk (by omega)
  · exact Leaf.mk (by unfold maxLen; omega)
  have hS : putR11 (key, xs) = (putS (key, xs), 0) := if_pos ‹check (key, xs) = 0›
  have hva : ∀ i, i < xs.length → VerOk (xs.getD i ver0) := fun i hi => ok.all _ (getD_mem ver0 hi)
  refine LoopVC.weak [(.slot 5, .frz)] (fun i : Nat => [(5, .sl (.int .u8) (putText key ++ putSmall xs.length ++ (xs.take i).flatMap putV)), (25, .i .i64 i)]) (fun _ => []) (fun i => i ≤ xs.length) (fun i => xs.length - i) 0 (Ev.mk ?_)
  (conv => whnf)
  refine ⟨Leaf.mk ?_, Leaf.mk ?_, ?_⟩
  · simp only [List.take_zero, List.flatMap_nil, List.append_nil]; rfl
  · omega
  intro i hi
  have hfl := flat_len putV 69 (xs.take i) (fun v hv => putV_len (ok.all v (List.mem_of_mem_take hv)))
  have htl : (xs.take i).length * 69 ≤ 552 := by rw [List.length_take]; omega
  repeat' (first | ((with_reducible refine Ev.mk ?_); conv => whnf) | (with_reducible refine And.intro ?_ ?_) | (intro h))
  all_goals (try simp only [decide_eq_true_eq, decide_eq_false_iff_not, beq_iff_eq, bne_iff_ne, beq_eq_false_iff_ne, bne_eq_false_iff_eq, Int.toNat_natCast, ge_iff_le, gt_iff_lt, Bool.not_eq_true', Bool.not_eq_false', Int.not_lt, Int.not_le, ne_eq] at *)
  all_goals (try dsimp only [Ty.den, Ty.dflt, VerT, sPutText, sPutSmall, sFlag] at *)
  all_goals (try simp only [eq4, ne4, eq3, ne3, eq2, ne2, Prod.eta, List.length_cons, List.length_nil, List.length_append, Nat.zero_add] at *)
  all_goals (try simp (disch := omega) only [wrap64] at *)
  all_goals try first | exact leafDraw (by kernel_rfl) | exact Leaf.mk trivial | (refine Leaf.mk ?_; omega) | (refine Leaf.mk ?_; unfold maxLen; omega)
  · exact Leaf.mk (show (xs.getD i ver0).2.2.2.length ≤ 100000 by have := (hva i (by omega)).val; omega)
  · have hv := hva i (by omega)
    have hvl := putV_len hv
    have h3 := flat_len putV 69 (xs.take i) (fun v hv => putV_len (ok.all v (List.mem_of_mem_take hv)))
    rw [wrapu (n := (xs.getD i ver0).1) hv.txn, wrapu (n := (xs.getD i ver0).2.1) hv.ts]
    refine Leaf.mk (show 5 ≤ 1000 ∧ (List.flatten (α := Int) _).length ≤ 1000000 from ⟨by omega, ?_⟩)
    simp only [putV, List.length_append, List.length_cons] at hvl
    dsimp only [ver0] at hvl ⊢
    simp only [List.flatten_cons, List.flatten_nil, List.length_append, List.length_cons, List.length_nil]
    omega
  · have hv := hva i (by omega)
    rw [wrapu (n := (xs.getD i ver0).1) hv.txn, wrapu (n := (xs.getD i ver0).2.1) hv.ts]
    refine Leaf.mk ⟨i + 1, ?_, by omega, by omega⟩
    rw [flatMap_at ver0 (by omega)]
    have e : (sConcatB.fn ([putText key ++ putSmall xs.length ++ (xs.take i).flatMap putV, putSmall (xs.getD i ver0).1, putSmall (xs.getD i ver0).2.1, [if (xs.getD i ver0).2.2.1 = true then 1 else 0], putText (xs.getD i ver0).2.2.2], ())).1.1 = putText key ++ putSmall xs.length ++ ((xs.take i).flatMap putV ++ putV (xs.getD i ver0)) := by
      show List.flatten _ = _
      simp [putV]
    exact congrArg (fun l => (⟨[(5, V.sl (.int .u8) l), (23, V.sl VerT xs), (24, V.i .i64 (xs.length : Int)), (25, V.i .i64 ((i : Int) + 1))], []⟩ : St)) e
  · rw [List.take_of_length_le (by omega)]
    refine Leaf.mk (retB (u := (putText key ++ putSmall xs.length ++ xs.flatMap putV, 0)) ?_)
    show _ = putR11 (key, xs)
    rw [hS, putS, List.append_assoc]
end Go.Proofs.YtkmfjlfejdoehaaGreat

set_option linter.unusedVariables false
set_option linter.unusedSimpArgs false
namespace Go.Proofs.YtkmfjlfejdoehaaGreat
open Go.Eng
def rel (me at' : Int) (v : Ver) : Bool := pend me v || okTs at' v
theorem firstZ_not (xs : List Ver) : ∀ j, j < firstZ xs → j < xs.length ∧ (xs.getD j ver0).2.1 ≠ 0 := by
  have gen : ∀ (xs : List Ver) (i : Nat), ∀ j : Nat, j < xs.length → (idxF ordered1 xs i < 0 ∨ (i : Int) + j < idxF ordered1 xs i) → (xs.getD j ver0).2.1 ≠ 0 := by
    intro xs
    induction xs with
    | nil => intro i j h; simp at h
    | cons x r ih =>
      intro i j hj h hc
      rw [idxF] at h
      split at h
      · omega
      · rename_i hx
        cases j with
        | zero => exact hx (by simpa [ordered1] using hc)
        | succ j => exact ih (i + 1) j (by simpa using hj) (by omega) (by simpa using hc)
  intro j hj
  unfold firstZ at hj
  have hp := idxF_pos ordered1 xs 0
  split at hj
  · exact ⟨hj, gen xs 0 j hj (.inl (by assumption))⟩
  · exact ⟨by omega, gen xs 0 j (by omega) (.inr (by omega))⟩
theorem OrdA_mono {xs : List Ver} {n : Nat} (h : OrdA xs n) : ∀ (d i : Nat), i + d < n → (xs.getD i ver0).2.1 ≤ (xs.getD (i + d) ver0).2.1
  | 0, i, _ => Int.le_refl _
  | d + 1, i, hn => by
    have h1 := OrdA_mono h d i (by omega)
    have h2 := h (i + (d + 1)) hn (by omega)
    rw [show i + (d + 1) - 1 = i + d by omega] at h2
    omega
end Go.Proofs.YtkmfjlfejdoehaaGreat
