import Derived.Test.YtoedpnniaikfbaaB1



set_option linter.unusedVariables false
set_option linter.unusedSimpArgs false
namespace Go.Proofs.Ytoedpnniaikfbaa
open Go.Eng
def putInt (n : Int) : List Int := layB (n + 9223372036854775808) 8
def sPutInt : PSpec := ⟨[.d (.int .i64)], [⟨false, [.d BT]⟩], fun _ => True, fun x => ((putInt x.1, ()), ())⟩
def sPutIntR : PSpec := sPutInt
def getInt (b : List Int) : Int × Int × Int := if b.length < 8 then (0, 0, 3) else (IntKind.i64.wrap ((numB (b.take 8) + 9223372036854775808) % 18446744073709551616), 8, 0)
def sGetInt : PSpec := ⟨[.d BT], [⟨false, [.d (.int .i64)]⟩, ⟨false, [.d (.int .i64)]⟩, ⟨false, [.d (.int .i64)]⟩], fun _ => True, fun x => (((getInt x.1).1, ()), ((getInt x.1).2.1, ()), ((getInt x.1).2.2, ()), ())⟩
def sGetIntR : PSpec := sGetInt
theorem tdiv256 {n : Int} (h : 0 ≤ n ∧ n ≤ 18446744073709551615) : n.tdiv 256 = n / 256 := Int.tdiv_eq_ediv_of_nonneg h.1
theorem byte0 {xs : List Int} (hx : ∀ x ∈ xs, Eng.Good (.int .u8) x) (i : Nat) : 0 ≤ xs.getD i 0 ∧ xs.getD i 0 ≤ 255 := by
  rcases Nat.lt_or_ge i xs.length with h | h
  · exact bdu8 (good_at (e := .int .u8) hx h 0)
  · rw [List.getD_eq_getElem?_getD, List.getElem?_eq_none h]; decide
def putSmall (n : Int) : List Int := ((widthN 8 n : Nat) : Int) :: layB n (widthN 8 n)
def sPutSmall : PSpec := ⟨[.d (.int .u64)], [⟨false, [.o 5 (.int .u8)]⟩], fun _ => True, fun x => ((putSmall x.1, ()), ())⟩
theorem fPutSmall : FnOk Try.prog 79 := ⟨_, Try.func79, by decide, rfl⟩
theorem pPutSmall : PSound Try.prog 79 sPutSmall := by
  refine psound (T := tab) (S := (spOf [(125, sWidth.spec (lsOf [])), (126, sLay.spec (lsOf []))])) (keep := k79) (by kernel_rfl) tabOk (spCons (pOk pWidth fWidth (by decide) lsNil) (spCons (pOk pLay fLay (by decide) lsNil) spNil)) (by kernel_rfl) Try.func79 (by kernel_rfl) (by decide) fun xs hg hp => ?_
  obtain ⟨n, ⟨⟩⟩ := xs
  obtain ⟨hn, -⟩ := hg
  change Int at n
  have hn := bdu64 hn
  change 0 ≤ n ∧ n ≤ _ at hn
  have hw := widthN_le 8 n
  clear hp
  show vfun tab _ k79 Try.f79 [.i .u64 n] [] _
  refine Ev.out ?_
  repeat' (first | ((with_reducible refine Ev.mk ?_); conv => whnf) | (with_reducible refine And.intro ?_ ?_) | (intro h))
  all_goals (try simp only [decide_eq_true_eq, decide_eq_false_iff_not, beq_iff_eq, bne_iff_ne, beq_eq_false_iff_ne, bne_eq_false_iff_eq, Int.toNat_natCast, ge_iff_le, gt_iff_lt, Bool.not_eq_true', Bool.not_eq_false', Int.not_lt, Int.not_le, ne_eq] at *)
  all_goals (try dsimp only [Ty.den, Ty.dflt, BT, sWidth, sLay] at *)
  all_goals (try simp only [eq4, ne4, eq3, ne3, eq2, ne2, Prod.eta, List.length_cons, List.length_nil, List.length_append, Nat.zero_add] at *)
  all_goals (try simp (disch := omega) only [wrap64] at *)
  all_goals (try simp only [layB_len, Int.toNat_natCast] at *)
  all_goals try first | exact leafDraw (by kernel_rfl) | exact Leaf.mk trivial | (refine Leaf.mk ?_; omega) | (refine Leaf.mk ?_; unfold maxLen; omega)
  · exact Leaf.mk (show (0 : Int) ≤ ((widthN 8 n : Nat) : Int) ∧ ((widthN 8 n : Nat) : Int) ≤ 8 by omega)
  · refine Leaf.mk (ret1 (show [IntKind.u8.wrap ((widthN 8 n : Nat) : Int)] ++ layB n (((widthN 8 n : Nat) : Int)).toNat = putSmall n from ?_))
    rw [wrapU8, putSmall, Int.toNat_natCast]
    rw [show ((widthN 8 n : Nat) : Int) % 256 = ((widthN 8 n : Nat) : Int) by omega]; rfl
def sPutSmallR : PSpec := sPutSmall
theorem fPutSmallR : FnOk Try.prog 82 := ⟨_, Try.func82, by decide, rfl⟩
theorem pPutSmallR : PSound Try.prog 82 sPutSmallR := by
  refine psound (T := tab) (S := (spOf [(127, sHigh.spec (lsOf []))])) (keep := k82) (by kernel_rfl) tabOk (spCons (pOk pHigh fHigh (by decide) lsNil) spNil) (by kernel_rfl) Try.func82 (by kernel_rfl) (by decide) fun xs hg hp => ?_
  obtain ⟨n, ⟨⟩⟩ := xs
  obtain ⟨hn, -⟩ := hg
  change Int at n
  have hn := bdu64 hn
  change 0 ≤ n ∧ n ≤ _ at hn
  have hw := widthN_le 8 n
  clear hp
  show vfun tab _ k82 Try.f82 [.i .u64 n] [] _
  refine Ev.out ?_
  repeat' (first | ((with_reducible refine Ev.mk ?_); conv => whnf) | (with_reducible refine And.intro ?_ ?_) | (intro h))
  refine LoopVC.on (fun a : Nat × Int => [(3, .i .i64 a.1), (4, .i .u64 a.2)]) (fun _ => []) (fun a => a.1 ≤ 8 ∧ (0 ≤ a.2 ∧ a.2 ≤ 18446744073709551615) ∧ a.2 < 256 ^ (8 - a.1) ∧ widthN 8 n = a.1 + widthN (8 - a.1) a.2) (fun a => 8 - a.1) (0, n) rfl ?_ ?_
  · refine ⟨by omega, hn, ?_, by simp⟩
    show n < 256 ^ 8
    omega
  intro ⟨k, m⟩ ⟨h1, h2, h3, h4⟩
  dsimp only at h1 h2 h3 h4
  repeat' (first | ((with_reducible refine Ev.mk ?_); conv => whnf) | (with_reducible refine And.intro ?_ ?_) | (intro h))
  all_goals (try simp only [decide_eq_true_eq, decide_eq_false_iff_not, beq_iff_eq, bne_iff_ne, beq_eq_false_iff_ne, bne_eq_false_iff_eq, Int.toNat_natCast, ge_iff_le, gt_iff_lt, Bool.not_eq_true', Bool.not_eq_false', Int.not_lt, Int.not_le, ne_eq] at *)
  all_goals (try dsimp only [Ty.den, Ty.dflt, BT, sHigh, sLay] at *)
  all_goals (try simp only [eq4, ne4, eq3, ne3, eq2, ne2, Prod.eta, List.length_cons, List.length_nil, List.length_append, Nat.zero_add] at *)
  all_goals (try simp (disch := omega) only [wrap64] at *)
  all_goals (try simp only [layB_len, tdiv256 h2] at *)
  all_goals try first | exact leafDraw (by kernel_rfl) | exact Leaf.mk trivial | (refine Leaf.mk ?_; omega) | (refine Leaf.mk ?_; unfold maxLen; omega)
  all_goals first
    | exact Leaf.mk (show (0 : Int) ≤ ((k : Nat) : Int) ∧ ((k : Nat) : Int) ≤ 8 by omega)
    | (refine Leaf.mk (show inK _ _ = true from ?_); simp only [inK, Bool.and_eq_true, decide_eq_true_eq]; omega)
    | skip
  · obtain ⟨j, hj⟩ : ∃ j, 8 - k = j + 1 := by
      refine ⟨8 - k - 1, ?_⟩
      rcases Nat.lt_or_ge k 8 with h8 | h8
      · omega
      · rw [show 8 - k = 0 by omega] at h3
        simp only [Int.pow_zero] at h3
        omega
    rw [hj] at h3 h4
    rw [show IntKind.u64.wrap (m / 256) = m / 256 by rw [wrapU64]; omega]
    refine Leaf.mk ⟨(k + 1, m / 256), rfl, ⟨by omega, by dsimp only; omega, ?_, ?_⟩, by dsimp only; omega⟩
    · dsimp only
      rw [show 8 - (k + 1) = j by omega]
      rw [Int.pow_succ] at h3
      exact Int.ediv_lt_of_lt_mul (by decide) h3
    · dsimp only
      rw [h4, widthN, if_pos h, show 8 - (k + 1) = j by omega]; omega
  · have : m = 0 := by omega
    subst this
    have h0 : ∀ f, widthN f 0 = 0 := fun f => by cases f <;> simp [widthN]
    refine Leaf.mk (ret1 (show [IntKind.u8.wrap ((k : Nat) : Int)] ++ layB n (((k : Nat) : Int)).toNat = putSmall n from ?_))
    rw [wrapU8, putSmall, Int.toNat_natCast, h4, h0]
    rw [show ((k : Nat) : Int) % 256 = ((k : Nat) : Int) by omega]; rfl
def getSmall (b : List Int) : Int × Int × Int :=
  if b.length = 0 then (0, 0, 3) else if 8 < b.getD 0 0 then (0, 0, 4) else if (b.length : Int) ≤ b.getD 0 0 then (0, 0, 3) else if 0 < b.getD 0 0 ∧ b.getD 1 0 = 0 then (0, 0, 4)
  else (numB ((b.take (b.getD 0 0 + 1).toNat).drop 1), b.getD 0 0 + 1, 0)
def sGetSmall : PSpec := ⟨[.d BT], [⟨false, [.d (.int .u64)]⟩, ⟨false, [.d (.int .i64)]⟩, ⟨false, [.d (.int .i64)]⟩], fun _ => True, fun x => (((getSmall x.1).1, ()), ((getSmall x.1).2.1, ()), ((getSmall x.1).2.2, ()), ())⟩
theorem fGetSmall : FnOk Try.prog 131 := ⟨_, Try.func131, by decide, rfl⟩
theorem pGetSmall : PSound Try.prog 131 sGetSmall := by
  refine psound (T := tab) (S := (spOf [(167, sNumber.spec (lsOf []))])) (keep := k131) (by kernel_rfl) tabOk (spCons (pOk pNumber fNumber (by decide) lsNil) spNil) (by kernel_rfl) Try.func131 (by kernel_rfl) (by decide) fun xs hg hp => ?_
  obtain ⟨xs, ⟨⟩⟩ := xs
  obtain ⟨⟨hl, hx⟩, -⟩ := hg
  change List Int at xs
  have hl := len63 hl
  change xs.length ≤ _ at hl
  change ∀ x ∈ xs, Eng.Good (.int .u8) x at hx
  clear hp
  have hb0 := byte0 hx 0
  show vfun tab _ k131 Try.f131 [.sl (.int .u8) xs] [] _
  refine Ev.out ?_
  repeat' (first | ((with_reducible refine Ev.mk ?_); conv => whnf) | (with_reducible refine And.intro ?_ ?_) | (intro h))
  all_goals (try simp only [decide_eq_true_eq, decide_eq_false_iff_not, beq_iff_eq, bne_iff_ne, beq_eq_false_iff_ne, bne_eq_false_iff_eq, Int.toNat_natCast, ge_iff_le, gt_iff_lt, Bool.not_eq_true', Bool.not_eq_false', Int.not_lt, Int.not_le, ne_eq] at *)
  all_goals (try dsimp only [Ty.den, Ty.dflt, BT, sNumber] at *)
  all_goals (try simp only [eq4, ne4, eq3, ne3, eq2, ne2, Prod.eta, List.length_cons, List.length_nil, List.length_append, Nat.zero_add] at *)
  all_goals (try simp (disch := omega) only [wrap64] at *)
  all_goals (try simp only [Int.reduceToNat] at *)
  all_goals (try simp (disch := omega) only [wrap64] at *)
  all_goals try first | exact leafDraw (by kernel_rfl) | exact Leaf.mk trivial | (refine Leaf.mk ?_; omega) | (refine Leaf.mk ?_; unfold maxLen; omega)
  all_goals clear hx
  all_goals (try (refine Leaf.mk ?_; omega))
  all_goals (refine Leaf.mk (ret3 ?_ ?_ ?_) <;> (dsimp only; rw [getSmall]; repeat (first | rw [if_pos (by omega)] | rw [if_neg (by omega)])))
  all_goals (dsimp only; rw [Int.add_comm])
def sGetSmallR : PSpec := sGetSmall
theorem fGetSmallR : FnOk Try.prog 134 := ⟨_, Try.func134, by decide, rfl⟩
theorem pGetSmallR : PSound Try.prog 134 sGetSmallR := by
  refine psound (T := tab) (S := (spOf [(168, sLow.spec (lsOf []))])) (keep := k134) (by kernel_rfl) tabOk (spCons (pOk pLow fLow (by decide) lsNil) spNil) (by kernel_rfl) Try.func134 (by kernel_rfl) (by decide) fun xs hg hp => ?_
  obtain ⟨xs, ⟨⟩⟩ := xs
  obtain ⟨⟨hl, hx⟩, -⟩ := hg
  change List Int at xs
  have hl := len63 hl
  change xs.length ≤ _ at hl
  change ∀ x ∈ xs, Eng.Good (.int .u8) x at hx
  clear hp
  have hb0 := byte0 hx 0
  show vfun tab _ k134 Try.f134 [.sl (.int .u8) xs] [] _
  refine Ev.out ?_
  repeat' (first | ((with_reducible refine Ev.mk ?_); conv => whnf) | (with_reducible refine And.intro ?_ ?_) | (intro h))
  all_goals (try simp only [decide_eq_true_eq, decide_eq_false_iff_not, beq_iff_eq, bne_iff_ne, beq_eq_false_iff_ne, bne_eq_false_iff_eq, Int.toNat_natCast, ge_iff_le, gt_iff_lt, Bool.not_eq_true', Bool.not_eq_false', Int.not_lt, Int.not_le, ne_eq] at *)
  all_goals (try dsimp only [Ty.den, Ty.dflt, BT, sLow, sNumber] at *)
  all_goals (try simp only [eq4, ne4, eq3, ne3, eq2, ne2, Prod.eta, List.length_cons, List.length_nil, List.length_append, Nat.zero_add] at *)
  all_goals (try simp (disch := omega) only [wrap64] at *)
  all_goals (try simp only [Int.reduceToNat] at *)
  all_goals (try simp (disch := omega) only [wrap64] at *)
  all_goals try first | exact leafDraw (by kernel_rfl) | exact Leaf.mk trivial | (refine Leaf.mk ?_; omega) | (refine Leaf.mk ?_; unfold maxLen; omega)
  all_goals clear hx
  all_goals (try (refine Leaf.mk ?_; omega))
  all_goals (refine Leaf.mk (ret3 ?_ ?_ ?_) <;> (dsimp only; rw [getSmall]; repeat (first | rw [if_pos (by omega)] | rw [if_neg (by omega)])))
  all_goals (dsimp only; rw [Int.add_comm])
end Go.Proofs.Ytoedpnniaikfbaa
