import Derived.Test.YtkmfjlfejdoehaaGreatQ6
import Derived.Test.YtkmfjlfejdoehaaGreatTab
import Derived.Test.YtkmfjlfejdoehaaGreatEng4
import Derived.Test.YtkmfjlfejdoehaaGreatEng3
/- Texts, one behind the other. -/
set_option linter.unusedVariables false
set_option linter.unusedSimpArgs false
namespace Go.Proofs.YtkmfjlfejdoehaaGreat
open Go.Eng
theorem p8 : (256 : Int) ^ 8 = 18446744073709551616 := by decide
theorem widthN_zero : ∀ f, widthN f 0 = 0
  | 0 => rfl
  | f + 1 => by rw [widthN, if_neg (by omega)]
theorem widthN_hi : ∀ (f : Nat) (n : Int), 0 ≤ n → n < 256 ^ f → n < 256 ^ (widthN f n)
  | 0, n, h1, h2 => h2
  | f + 1, n, h1, h2 => by
    rw [Int.pow_succ] at h2
    rw [widthN]
    split
    · have := widthN_hi f (n / 256) (by omega) (Int.ediv_lt_of_lt_mul (by decide) h2)
      rw [Int.pow_succ]; omega
    · rw [Int.pow_zero]; omega
theorem widthN_lo : ∀ (f : Nat) (n : Int), 0 < n → n < 256 ^ f → ∃ w, widthN f n = w + 1 ∧ 256 ^ w ≤ n
  | 0, n, h1, h2 => by rw [Int.pow_zero] at h2; omega
  | f + 1, n, h1, h2 => by
    rw [Int.pow_succ] at h2
    rw [widthN, if_pos h1]
    refine ⟨_, rfl, ?_⟩
    by_cases h0 : n / 256 = 0
    · rw [h0, widthN_zero, Int.pow_zero]; omega
    · obtain ⟨w, hw, hl⟩ := widthN_lo f (n / 256) (by omega) (Int.ediv_lt_of_lt_mul (by decide) h2)
      rw [hw, Int.pow_succ]; omega
theorem txt_put (b : List Int) : ∀ (xs acc : List Int) (p : Nat), txt (putB xs ++ b) acc p = (acc ++ xs, ((p + (putB xs).length : Nat) : Int), 0)
  | [], acc, p => by
    show txt (0 :: 1 :: b) acc p = _
    rw [txt_esc rfl, if_pos rfl, List.append_nil]; rfl
  | x :: xs, acc, p => by
    rw [putB_cons, List.append_assoc]
    unfold escI
    by_cases h : x = 0
    · rw [if_pos h]
      show txt (0 :: 255 :: (putB xs ++ b)) acc p = _
      rw [txt_esc rfl, if_neg (by omega), if_pos rfl, txt_put b xs]
      subst h
      simp only [List.append_assoc, List.cons_append, List.nil_append, List.length_cons]
      congr 3; omega
    · rw [if_neg h]
      show txt (x :: (putB xs ++ b)) acc p = _
      rw [txt_ne h, txt_put b xs]
      simp only [List.append_assoc, List.cons_append, List.nil_append, List.length_cons]
      congr 3; omega
theorem getText_put (s : List UInt8) (b : List Int) : getText (putText s ++ b) = (s, (((putText s).length : Nat) : Int), 0) := by
  unfold getText putText
  rw [txt_put]
  simp [str_bytes]
theorem numB_lay : ∀ (k : Nat) (n : Int), 0 ≤ n → n < 256 ^ k → n ≤ 18446744073709551615 → numB (layB n k) = n
  | 0, n, h1, h2, _ => by rw [Int.pow_zero] at h2; rw [show n = 0 by omega]; rfl
  | k + 1, n, h1, h2, h3 => by
    rw [Int.pow_succ] at h2
    have ih := numB_lay k (n / 256) (by omega) (Int.ediv_lt_of_lt_mul (by decide) h2) (by omega)
    unfold numB at ih ⊢
    rw [layB, List.foldl_append, ih]
    simp only [List.foldl_cons, List.foldl_nil]
    omega
theorem lay_head {n : Int} (hn : 0 < n) (h : n ≤ 18446744073709551615) : ∃ c r w, widthN 8 n = w + 1 ∧ layB n (widthN 8 n) = c :: r ∧ ¬ c = 0 := by
  obtain ⟨w, hw, hl⟩ := widthN_lo 8 n hn (by rw [p8]; omega)
  have hh := widthN_hi 8 n (by omega) (by rw [p8]; omega)
  rw [hw, Int.pow_succ] at hh
  refine ⟨_, _, w, hw, by rw [hw, layB_top], ?_⟩
  have hp : (0 : Int) < 256 ^ w := Int.pow_pos (by decide)
  have h1 : 1 ≤ n / 256 ^ w := by rw [Int.le_ediv_iff_mul_le hp]; omega
  have h2 : n / 256 ^ w < 256 := Int.ediv_lt_of_lt_mul hp (by omega)
  omega
theorem getSmall_put {n : Int} (hn : 0 ≤ n ∧ n ≤ 18446744073709551615) (b : List Int) : getSmall (putSmall n ++ b) = (n, (((putSmall n).length : Nat) : Int), 0) := by
  have hw := widthN_le 8 n
  have hl : (layB n (widthN 8 n)).length = widthN 8 n := layB_len _ _
  have h0 : (putSmall n ++ b).getD 0 0 = ((widthN 8 n : Nat) : Int) := by unfold putSmall; simp
  have hlen : (putSmall n).length = widthN 8 n + 1 := by unfold putSmall; simp [hl]
  have h1 : ¬ (0 < ((widthN 8 n : Nat) : Int) ∧ (putSmall n ++ b).getD 1 0 = 0) := by
    intro ⟨p, q⟩
    have : 0 < n := by
      rcases Int.lt_or_le 0 n with h | h
      · exact h
      · rw [show n = 0 by omega, widthN_zero] at p; omega
    obtain ⟨c, r, w, e1, e2, e3⟩ := lay_head this hn.2
    unfold putSmall at q
    rw [e2] at q
    simp at q
    exact e3 q
  unfold getSmall
  rw [h0, if_neg (by rw [List.length_append]; omega), if_neg (by omega), if_neg (by rw [List.length_append]; omega), if_neg h1]
  rw [show (((widthN 8 n : Nat) : Int) + 1).toNat = (putSmall n).length by omega, List.take_left' rfl]
  have e : (putSmall n).drop 1 = layB n (widthN 8 n) := rfl
  rw [e, numB_lay _ _ hn.1 (widthN_hi 8 n hn.1 (by rw [p8]; omega)) hn.2, hlen]
  rfl
end Go.Proofs.YtkmfjlfejdoehaaGreat

set_option linter.unusedVariables false
set_option linter.unusedSimpArgs false
namespace Go.Proofs.YtkmfjlfejdoehaaGreat
open Go.Eng
theorem putText_len (s : List UInt8) : (putText s).length ≤ 2 * s.length + 2 := by
  have := escI_len (bytesOfStr s)
  have e : (bytesOfStr s).length = s.length := by simp [bytesOfStr]
  simp only [putText, putB, List.length_append, List.length_cons, List.length_nil]; omega
theorem putSmall_len (n : Int) : 1 ≤ (putSmall n).length ∧ (putSmall n).length ≤ 9 := by
  have hw := widthN_le 8 n
  have hl : (layB n (widthN 8 n)).length = widthN 8 n := layB_len _ _
  simp only [putSmall, List.length_cons]; omega
theorem bytes_str : ∀ (xs : List Int), isB xs → bytesOfStr (strOfBytes xs) = xs
  | [], _ => rfl
  | x :: r, h => by
    have hx := h x (by simp)
    have ih := bytes_str r (fun z hz => h z (by simp [hz]))
    show ((UInt8.ofNat x.toNat).toNat : Int) :: bytesOfStr (strOfBytes r) = _
    rw [ih, UInt8.toNat_ofNat']
    congr 1; omega
theorem str_inj {xs ys : List Int} (hx : isB xs) (hy : isB ys) (h : strOfBytes xs = strOfBytes ys) : xs = ys := by
  rw [← bytes_str xs hx, h, bytes_str ys hy]
end Go.Proofs.YtkmfjlfejdoehaaGreat

set_option linter.unusedVariables false
set_option linter.unusedSimpArgs false
namespace Go.Proofs.YtkmfjlfejdoehaaGreat
open Go.Eng
abbrev VerT : Ty := .pair (.int .i64) (.pair (.int .i64) (.pair .bool .str))
abbrev StT : Ty := .pair .str (.slice VerT)
abbrev Ver := Int × Int × Bool × List UInt8
abbrev Stk := List UInt8 × List Ver
def pend (me : Int) (v : Ver) : Bool := decide (v.2.1 = 0 ∧ v.1 = me ∧ 0 ≤ me)
end Go.Proofs.YtkmfjlfejdoehaaGreat

set_option linter.unusedVariables false
set_option linter.unusedSimpArgs false
namespace Go.Proofs.YtkmfjlfejdoehaaGreat
open Go.Eng
def lightV (v : Ver) : Bool := decide (v.2.2.2.length ≤ 100)
def light (s : Stk) : Bool := decide (s.1.length ≤ 100) && (decide (s.2.length ≤ 12) && s.2.all lightV)
def sLight : PSpec := ⟨[.d StT], [⟨false, [.d .bool]⟩], fun _ => True, fun x => ((light x.1, ()), ())⟩
theorem fLight : FnOk Tryz.prog 36 := ⟨_, Tryz.func36, by decide, rfl⟩
theorem pLight : PSound Tryz.prog 36 sLight := by
  refine psound (T := tab) (S := (spOf [])) (keep := k36) (by kernel_rfl) tabOk spNil (by kernel_rfl) Tryz.func36 (by kernel_rfl) (by decide) fun xs hg hp => ?_
  obtain ⟨⟨key, xs⟩, ⟨⟩⟩ := xs
  obtain ⟨⟨hk, hl, hx⟩, hg⟩ := hg
  change List UInt8 at key
  change List Ver at xs
  have hl := len63 hl
  clear hp
  show vfun tab _ k36 Tryz.f36 [.agg [.s key, .sl VerT xs]] [] _
  refine Ev.out ?_
  repeat' (first | ((with_reducible refine Ev.mk ?_); conv => whnf) | (with_reducible refine And.intro ?_ ?_) | (intro h))
  all_goals (try simp only [decide_eq_true_eq, decide_eq_false_iff_not, beq_iff_eq, bne_iff_ne, beq_eq_false_iff_ne, bne_eq_false_iff_eq, Int.toNat_natCast, ge_iff_le, gt_iff_lt, Bool.not_eq_true', Bool.not_eq_false', Int.not_lt, Int.not_le, ne_eq] at *)
  all_goals (try dsimp only [Ty.den, Ty.dflt, VerT] at *)
  all_goals (try simp only [eq4, ne4, eq3, ne3, eq2, ne2, Prod.eta, List.length_cons, List.length_nil, List.length_append, Nat.zero_add] at *)
  all_goals (try simp (disch := omega) only [wrap64] at *)
  · refine Leaf.mk (ret1 (?_ : false = light (key, xs)))
    simp only [light]; rw [show decide (key.length ≤ 100) = false by simp; omega]; rfl
  · refine Leaf.mk (ret1 (?_ : false = light (key, xs)))
    simp only [light]; rw [show decide (xs.length ≤ 12) = false by simp; omega]; simp
  · have h0 : light (key, xs) = xs.all lightV := by
      simp only [light]; rw [show decide (xs.length ≤ 12) = true by simp; omega, show decide (key.length ≤ 100) = true by simp; omega]; simp
    refine LoopVC.on (fun i : Nat => [(3, .i .i64 i)]) (fun _ => []) (fun i => i ≤ xs.length ∧ light (key, xs) = (xs.drop i).all lightV) (fun i => xs.length - i) 0 rfl ⟨by omega, by simp [h0]⟩ ?_
    intro i ⟨hi, he⟩
    repeat' (first | ((with_reducible refine Ev.mk ?_); conv => whnf) | (with_reducible refine And.intro ?_ ?_) | (intro h))
    all_goals (try simp only [decide_eq_true_eq, decide_eq_false_iff_not, beq_iff_eq, bne_iff_ne, beq_eq_false_iff_ne, bne_eq_false_iff_eq, Int.toNat_natCast, ge_iff_le, gt_iff_lt, Bool.not_eq_true', Bool.not_eq_false', Int.not_lt, Int.not_le, ne_eq] at *)
    all_goals (try dsimp only [Ty.den, Ty.dflt, VerT] at *)
    all_goals (try simp only [eq4, ne4, eq3, ne3, eq2, ne2, Prod.eta, List.length_cons, List.length_nil, List.length_append, Nat.zero_add] at *)
    all_goals (try simp (disch := omega) only [wrap64] at *)
    all_goals try first | exact leafDraw (by kernel_rfl) | exact Leaf.mk trivial | (refine Leaf.mk ?_; omega) | (refine Leaf.mk ?_; unfold maxLen; omega)
    all_goals first
      | (rw [all_end (by omega)] at he; exact Leaf.mk (ret1 he.symm))
      | (rw [all_hit (0, 0, false, []) (by omega) (by simp only [lightV, decide_eq_false_iff_not]; omega)] at he; exact Leaf.mk (ret1 he.symm))
      | (rw [all_skip (0, 0, false, []) (by omega) (by simp only [lightV, decide_eq_true_eq]; omega)] at he; exact Leaf.mk ⟨i + 1, rfl, ⟨by omega, he⟩, by omega⟩)
def sIndexFunc : PSpec := ⟨[.d (.slice VerT), .lam VerT .bool], [⟨false, [.d (.int .i64)]⟩], fun _ => True, fun x => ((idxF x.2.1 x.1 0, ()), ())⟩
theorem fIndexFunc : FnOk Tryz.prog 198 := ⟨_, Tryz.func198, by decide, rfl⟩
theorem pIndexFunc : PSound Tryz.prog 198 sIndexFunc := by
  refine psound (T := tab) (S := (spOf [])) (keep := k198) (by kernel_rfl) tabOk spNil (by kernel_rfl) Tryz.func198 (by kernel_rfl) (by decide) fun xs hg hp => ?_
  obtain ⟨xs, p, ⟨⟩⟩ := xs
  obtain ⟨⟨hl, -⟩, -⟩ := hg
  change List Ver at xs
  change Ver → Bool at p
  have hl := len63 hl
  clear hp
  show vfun tab _ k198 Tryz.f198 [.sl VerT xs, .lam VerT .bool p] [] _
  refine Ev.out ?_
  repeat' (first | ((with_reducible refine Ev.mk ?_); conv => whnf) | (with_reducible refine And.intro ?_ ?_) | (intro h))
  refine LoopVC.on (fun i : Nat => [(8, .i .i64 i)]) (fun _ => []) (fun i => i ≤ xs.length ∧ idxF p xs 0 = idxF p (xs.drop i) i) (fun i => xs.length - i) 0 rfl ⟨by omega, by simp⟩ ?_
  intro i ⟨hi, he⟩
  repeat' (first | ((with_reducible refine Ev.mk ?_); conv => whnf) | (with_reducible refine And.intro ?_ ?_) | (intro h))
  all_goals (try simp only [decide_eq_true_eq, decide_eq_false_iff_not, beq_iff_eq, bne_iff_ne, beq_eq_false_iff_ne, bne_eq_false_iff_eq, Int.toNat_natCast, ge_iff_le, gt_iff_lt, Bool.not_eq_true', Bool.not_eq_false', Int.not_lt, Int.not_le, ne_eq] at *)
  all_goals (try dsimp only [Ty.den, Ty.dflt, VerT] at *)
  all_goals (try simp only [eq4, ne4, eq3, ne3, eq2, ne2, Prod.eta, List.length_cons, List.length_nil, List.length_append, Nat.zero_add] at *)
  all_goals (try simp (disch := omega) only [wrap64] at *)
  all_goals try first | exact leafDraw (by kernel_rfl) | exact Leaf.mk trivial | (refine Leaf.mk ?_; omega) | (refine Leaf.mk ?_; unfold maxLen; omega)
  all_goals first
    | (rw [drop_end (by omega)] at he; exact Leaf.mk (ret1 he.symm))
    | (rw [drop_at (0, 0, false, []) (by omega), idxF, if_pos (by assumption)] at he; exact Leaf.mk (ret1 he.symm))
    | (rw [drop_at (0, 0, false, []) (by omega), idxF, if_neg (by simp_all)] at he; exact Leaf.mk ⟨i + 1, rfl, ⟨by omega, he⟩, by omega⟩)
def roomP (me : Int) (v : Ver) : Bool := (v.2.1 == 0) && (v.1 == me)
def room (s : Stk) (me : Int) : Bool := decide (s.2.length < 8) || s.2.any (roomP me)
def okTs (at' : Int) (v : Ver) : Bool := decide (1 ≤ v.2.1 ∧ v.2.1 ≤ at')
end Go.Proofs.YtkmfjlfejdoehaaGreat

set_option linter.unusedVariables false
set_option linter.unusedSimpArgs false
namespace Go.Proofs.YtkmfjlfejdoehaaGreat
open Go.Eng
def sDeleteV : OSpec := ⟨121, VerT, [.d (.int .i64), .d (.int .i64)], fun xs y => 0 ≤ y.1 ∧ y.1 ≤ y.2.1 ∧ y.2.1 ≤ (xs.length : Int) ∧ xs.length ≤ 1000000, fun xs y => xs.take y.1.toNat ++ xs.drop y.2.1.toNat⟩
theorem fDeleteV : FnOk Tryz.prog 185 := ⟨_, Tryz.func185, by decide, rfl⟩
theorem pDeleteV : SpecOk Tryz.prog 185 sDeleteV.spec := by
  refine oOk (T := tab) (S := (spOf [])) (keep := k185) (by kernel_rfl) tabOk spNil (by kernel_rfl) Tryz.func185 (by kernel_rfl) (by decide) (by decide) fun xs ys k hg hgt hmax hp => ?_
  obtain ⟨i, j, ⟨⟩⟩ := ys
  change List Ver at xs
  change Int at i
  change Int at j
  change 0 ≤ i ∧ i ≤ j ∧ j ≤ (xs.length : Int) ∧ xs.length ≤ 1000000 at hp
  clear hg hgt
  obtain ⟨i, rfl⟩ := Int.eq_ofNat_of_zero_le hp.1
  obtain ⟨j, rfl⟩ := Int.eq_ofNat_of_zero_le (show 0 ≤ j by omega)
  show vfun tab _ k185 Tryz.f185 [.vw 0 VerT 0 xs.length true, .i .i64 i, .i .i64 j] [(0, .raw 121 VerT (xs.map some ++ List.replicate k (none : Option (Ty.den VerT))))] _
  refine Ev.out ?_
  repeat' (first | ((with_reducible refine Ev.mk ?_); conv => whnf) | (with_reducible refine And.intro ?_ ?_) | (intro h))
  all_goals (try simp only [decide_eq_true_eq, decide_eq_false_iff_not, beq_iff_eq, bne_iff_ne, beq_eq_false_iff_ne, bne_eq_false_iff_eq, Int.toNat_natCast, ge_iff_le, gt_iff_lt, Bool.not_eq_true', Bool.not_eq_false', Int.not_lt, Int.not_le, ne_eq] at *)
  all_goals (try dsimp only [Ty.den, Ty.dflt, VerT] at *)
  all_goals (try simp only [eq4, ne4, eq3, ne3, eq2, ne2, Prod.eta, List.length_cons, List.length_nil, List.length_append, Nat.zero_add] at *)
  all_goals (try simp (disch := omega) only [wrap64] at *)
  all_goals (try simp only [Int.sub_zero, Int.toNat_natCast, Int.toNat_sub, Int.toNat_zero, Nat.zero_add, toNat_add', toNat_addsub, toNat_subadd, List.length_map, List.length_append, List.length_replicate, List.length_take, List.length_drop] at *)
  all_goals first | omega | skip
  all_goals try first | exact leafDraw (by kernel_rfl) | exact Leaf.mk trivial | (refine Leaf.mk ?_; omega) | (refine Leaf.mk ?_; unfold maxLen; omega)
  all_goals first
    | (refine Leaf.mk ?_; unfold maxLen at *; omega)
    | skip
  · refine Leaf.mk (readO_vw.trans (congrArg some (?_ : _ = (xs.take i ++ xs.drop j).map some)))
    obtain rfl : i = j := by omega
    change ((xs.map some ++ List.replicate k none).take _) = _
    rw [raw_take (by omega)]
    simp
  · refine Leaf.mk (?_ : (List.take _ (List.drop _ (xs.map some ++ List.replicate k none))).all Option.isSome = true); rw [raw_cut (by omega)]; exact raw_all
  · refine Leaf.mk (readO_vw.trans (congrArg some (?_ : _ = (xs.take i ++ xs.drop j).map some)))
    change List.take (α := Option Ver) _ _ = _
    rw [Nat.min_eq_left (by omega), raw_cut (by omega), raw_take (by omega), map_some_getD]
    rw [show (xs.drop j).take (xs.length - j) = xs.drop j from List.take_of_length_le (by simp), ← List.map_append]
    rw [List.append_assoc (List.take _ _), List.take_append_of_le_length, List.take_take, Nat.min_self, List.take_append_of_le_length, List.take_of_length_le]
    all_goals simp
    all_goals omega
theorem pOverlapsV : XOk Tryz.prog 224 xOverlaps := xOverlaps_ok tabOk Tryz.func224 (by kernel_rfl) (by kernel_rfl) (by kernel_rfl) (by kernel_rfl) (t := 36) rfl rfl (by rfl)
def sInsertV : OSpec := ⟨121, VerT, [.d (.int .i64), .o 121 VerT], fun xs y => 0 ≤ y.1 ∧ y.1 ≤ (xs.length : Int) ∧ xs.length + List.length y.2.1 ≤ 1000000, fun xs y => xs.take y.1.toNat ++ (y.2.1 ++ xs.drop y.1.toNat)⟩
theorem fInsertV : FnOk Tryz.prog 186 := ⟨_, Tryz.func186, by decide, rfl⟩
theorem pInsertV : SpecOk Tryz.prog 186 sInsertV.spec := by
  refine oOk (T := tab) (S := (spOf [(224, xOverlaps)])) (keep := k186) (by kernel_rfl) tabOk (spCons (.inr pOverlapsV) spNil) (by kernel_rfl) Tryz.func186 (by kernel_rfl) (by decide) (by decide) fun xs ys k hg hgt hmax hp => ?_
  obtain ⟨i, vs, ⟨⟩⟩ := ys
  change List Ver at xs
  change List Ver at vs
  change Int at i
  change 0 ≤ i ∧ i ≤ (xs.length : Int) ∧ xs.length + vs.length ≤ 1000000 at hp
  clear hg hgt
  obtain ⟨i, rfl⟩ := Int.eq_ofNat_of_zero_le hp.1
  show vfun tab _ k186 Tryz.f186 [.vw 0 VerT 0 xs.length true, .i .i64 i, .own 1] [(0, .raw 121 VerT (xs.map some ++ List.replicate k (none : Option (Ty.den VerT)))), (1, .arr 121 VerT vs)] _
  refine Ev.out ?_
  repeat' (first | ((with_reducible refine Ev.mk ?_); conv => whnf) | (with_reducible refine And.intro ?_ ?_) | (intro h))
  all_goals (try simp only [decide_eq_true_eq, decide_eq_false_iff_not, beq_iff_eq, bne_iff_ne, beq_eq_false_iff_ne, bne_eq_false_iff_eq, Int.toNat_natCast, ge_iff_le, gt_iff_lt, Bool.not_eq_true', Bool.not_eq_false', Int.not_lt, Int.not_le, ne_eq] at *)
  all_goals (try dsimp only [Ty.den, Ty.dflt, VerT] at *)
  all_goals (try simp only [eq4, ne4, eq3, ne3, eq2, ne2, Prod.eta, List.length_cons, List.length_nil, List.length_append, Nat.zero_add] at *)
  all_goals (try simp (disch := omega) only [wrap64] at *)
  all_goals (try simp only [Int.sub_zero, Int.toNat_natCast, Int.toNat_sub, Int.toNat_zero, Nat.zero_add, toNat_add', toNat_addsub, toNat_subadd, List.length_map, List.length_append, List.length_replicate, List.length_take, List.length_drop] at *)
  all_goals first | omega | skip
  all_goals try first | exact leafDraw (by kernel_rfl) | exact Leaf.mk trivial | (refine Leaf.mk ?_; omega) | (refine Leaf.mk ?_; unfold maxLen; omega)
  all_goals first
    | (refine Leaf.mk ?_; unfold maxLen at *; omega)
    | skip
  · refine Leaf.mk (readO_vw.trans (congrArg some (?_ : _ = (xs.take i ++ (vs ++ xs.drop i)).map some)))
    obtain rfl : vs = [] := List.eq_nil_of_length_eq_zero (by omega)
    change ((xs.map some ++ List.replicate k none).take _) = _
    rw [raw_take (by omega)]
    simp
  · refine Leaf.mk (readO_vw.trans (congrArg some (?_ : _ = (xs.take i ++ (vs ++ xs.drop i)).map some)))
    obtain rfl : i = xs.length := by omega
    change (List.take (α := Option Ver) _ _) = _
    rw [raw_take (by omega), tk3 (by simp)]
    simp
  · refine Leaf.mk (readO_vw.trans (congrArg some (?_ : _ = (xs.take i ++ (vs ++ xs.drop i)).map some)))
    obtain rfl : i = xs.length := by omega
    change (List.take (α := Option Ver) _ _) = _
    rw [raw_take (by omega), tk3 (by simp)]
    simp
  · refine Leaf.mk (?_ : (List.take _ (List.drop _ (xs.map some ++ List.replicate k none))).all Option.isSome = true); rw [raw_cut (by omega)]; exact raw_all
  · exact Leaf.mk (readO_vw.trans (congrArg some (ins_new (by omega) (by omega) (by omega))))
  · refine Leaf.mk (?_ : (List.take _ (List.drop _ (xs.map some ++ List.replicate k none))).all Option.isSome = true); rw [raw_cut (by omega)]; exact raw_all
  · exact Leaf.mk (readO_vw.trans (congrArg some (ins_in (by omega) (by omega))))
end Go.Proofs.YtkmfjlfejdoehaaGreat

set_option linter.unusedVariables false
set_option linter.unusedSimpArgs false
namespace Go.Proofs.YtkmfjlfejdoehaaGreat
open Go.Eng
abbrev ver0 : Ver := (0, 0, false, [])
def inB (n : Int) : Bool := decide (0 ≤ n ∧ n ≤ 1099511627776)
def sIn : PSpec := ⟨[.d (.int .i64)], [⟨false, [.d .bool]⟩], fun _ => True, fun x => ((inB x.1, ()), ())⟩
theorem fIn : FnOk Tryz.prog 197 := ⟨_, Tryz.func197, by decide, rfl⟩
theorem pIn : PSound Tryz.prog 197 sIn := by
  refine psound (T := tab) (S := (spOf [])) (keep := k197) (by kernel_rfl) tabOk spNil (by kernel_rfl) Tryz.func197 (by kernel_rfl) (by decide) fun xs hg hp => ?_
  obtain ⟨n, ⟨⟩⟩ := xs
  change Int at n
  show vfun tab _ k197 Tryz.f197 [.i .i64 n] [] _
  refine Ev.out ?_
  repeat' (first | ((with_reducible refine Ev.mk ?_); conv => whnf) | (with_reducible refine And.intro ?_ ?_) | (intro h))
  all_goals (try simp only [decide_eq_true_eq, decide_eq_false_iff_not, beq_iff_eq, bne_iff_ne, beq_eq_false_iff_ne, bne_eq_false_iff_eq, Int.toNat_natCast, ge_iff_le, gt_iff_lt, Bool.not_eq_true', Bool.not_eq_false', Int.not_lt, Int.not_le, ne_eq] at *)
  all_goals (try dsimp only [Ty.den, Ty.dflt, VerT] at *)
  all_goals (try simp only [eq4, ne4, eq3, ne3, eq2, ne2, Prod.eta, List.length_cons, List.length_nil, List.length_append, Nat.zero_add] at *)
  all_goals (try simp (disch := omega) only [wrap64] at *)
  all_goals
    refine Leaf.mk (ret1 (show _ = inB n from ?_))
    simp only [inB]
    first
    | (rw [decide_eq_false (p := 0 ≤ n ∧ n ≤ 1099511627776) (by omega)]; done)
    | (congr 1; simp only [eq_iff_iff]; omega)
def verC (v : Ver) : Int := if 24 < v.2.2.2.length then 5 else if v.2.2.1 = true ∧ v.2.2.2 ≠ [] then 4 else if inB v.1 = true ∧ inB v.2.1 = true then 0 else 9
def sVersion : PSpec := ⟨[.d VerT], [⟨false, [.d (.int .i64)]⟩], fun _ => True, fun x => ((verC x.1, ()), ())⟩
theorem fVersion : FnOk Tryz.prog 150 := ⟨_, Tryz.func150, by decide, rfl⟩
theorem pVersion : PSound Tryz.prog 150 sVersion := by
  refine psound (T := tab) (S := (spOf [(197, sIn.spec (lsOf []))])) (keep := k150) (by kernel_rfl) tabOk (spCons (pOk pIn fIn (by decide) lsNil) spNil) (by kernel_rfl) Tryz.func150 (by kernel_rfl) (by decide) fun xs hg hp => ?_
  obtain ⟨⟨txn, ts, gone, val⟩, ⟨⟩⟩ := xs
  obtain ⟨⟨hg1, hg2, -, hl⟩, -⟩ := hg
  change List UInt8 at val
  change Int at txn
  change Int at ts
  change Bool at gone
  change val.length ≤ maxLen at hl
  have hl := len63 hl
  show vfun tab _ k150 Tryz.f150 [.agg [.i .i64 txn, .i .i64 ts, .b gone, .s val]] [] _
  refine Ev.out ?_
  repeat' (first | ((with_reducible refine Ev.mk ?_); conv => whnf) | (with_reducible refine And.intro ?_ ?_) | (intro h))
  all_goals (try simp only [decide_eq_true_eq, decide_eq_false_iff_not, beq_iff_eq, bne_iff_ne, beq_eq_false_iff_ne, bne_eq_false_iff_eq, Int.toNat_natCast, ge_iff_le, gt_iff_lt, Bool.not_eq_true', Bool.not_eq_false', Int.not_lt, Int.not_le, ne_eq] at *)
  all_goals (try dsimp only [Ty.den, Ty.dflt, VerT, sIn] at *)
  all_goals (try simp only [eq4, ne4, eq3, ne3, eq2, ne2, Prod.eta, List.length_cons, List.length_nil, List.length_append, Nat.zero_add] at *)
  all_goals (try simp (disch := omega) only [wrap64] at *)
  all_goals try first | exact leafDraw (by kernel_rfl) | exact Leaf.mk trivial | (refine Leaf.mk ?_; omega) | (refine Leaf.mk ?_; unfold maxLen; omega)
  all_goals
    refine Leaf.mk (ret1 (show (_ : Int) = verC (txn, ts, gone, val) from ?_))
    simp only [verC]
    first
    | (rw [if_pos (show 24 < val.length by omega)]; done)
    | (rw [if_neg (show ¬ 24 < val.length by omega)]; simp_all)
def ordered1 (v : Ver) : Bool := v.2.1 == 0
def lOrdered1 : LSpec := ⟨VerT, .bool, [], fun v _ => ordered1 v⟩
theorem fOrdered1 : FnOk Tryz.prog 199 := ⟨_, Tryz.func199, by decide, rfl⟩
theorem pOrdered1 : PSound Tryz.prog 199 lOrdered1.p := by
  refine psound (T := tab) (S := (spOf [])) (keep := k199) (by kernel_rfl) tabOk spNil (by kernel_rfl) Tryz.func199 (by kernel_rfl) (by decide) fun xs hg hp => ?_
  obtain ⟨⟨txn, ts, gone, val⟩, ⟨⟩⟩ := xs
  show vfun tab _ k199 Tryz.f199 [.agg [.i .i64 txn, .i .i64 ts, .b gone, .s val]] [] _
  refine Ev.out ?_
  repeat' (first | ((with_reducible refine Ev.mk ?_); conv => whnf) | (with_reducible refine And.intro ?_ ?_) | (intro h))
  exact Leaf.mk rfl
def firstZ (xs : List Ver) : Nat := if idxF ordered1 xs 0 < 0 then xs.length else (idxF ordered1 xs 0).toNat
def OrdA (xs : List Ver) (n : Nat) : Prop := ∀ j, j < n → 1 ≤ j → (xs.getD (j - 1) ver0).2.1 ≤ (xs.getD j ver0).2.1
def OrdB : List Ver → List Int → Prop
  | [], _ => True
  | v :: r, l => v.2.1 = 0 ∧ v.1 ∉ l ∧ OrdB r (v.1 :: l)
instance : ∀ (xs : List Ver) (l : List Int), Decidable (OrdB xs l)
  | [], _ => .isTrue trivial
  | v :: r, l => by
    have := instDecidableOrdB r (v.1 :: l)
    unfold OrdB
    exact inferInstance
instance (xs : List Ver) (n : Nat) : Decidable (OrdA xs n) := by unfold OrdA; exact inferInstance
def ordered (xs : List Ver) : Bool := decide (OrdA xs (firstZ xs) ∧ OrdB (xs.drop (firstZ xs)) [])
def sOrdered : PSpec := ⟨[.d (.slice VerT)], [⟨false, [.d .bool]⟩], fun _ => True, fun x => ((ordered x.1, ()), ())⟩
theorem OrdB_at {xs : List Ver} {m : Nat} {l : List Int} (h : m < xs.length) : OrdB (xs.drop m) l ↔ (xs.getD m ver0).2.1 = 0 ∧ (xs.getD m ver0).1 ∉ l ∧ OrdB (xs.drop (m + 1)) ((xs.getD m ver0).1 :: l) := by
  rw [drop_at ver0 h, OrdB]
theorem OrdA_le {xs : List Ver} {n i : Nat} (h : OrdA xs i) (hn : n ≤ i) : OrdA xs n := fun j hj h1 => h j (by omega) h1
theorem fOrdered : FnOk Tryz.prog 151 := ⟨_, Tryz.func151, by decide, rfl⟩
theorem pOrdered : PSound Tryz.prog 151 sOrdered := by
  refine psound (T := tab) (S := (spOf [(198, sIndexFunc.spec (lsOf [(199, lOrdered1)]))])) (keep := k151) (by kernel_rfl) tabOk (spCons (pOk pIndexFunc fIndexFunc (by decide) ((lsCons ⟨pOrdered1, fOrdered1⟩ lsNil))) spNil) (by kernel_rfl) Tryz.func151 (by kernel_rfl) (by decide) fun xs hg hp => ?_
  obtain ⟨xs, ⟨⟩⟩ := xs
  obtain ⟨⟨hl, hx⟩, -⟩ := hg
  change List Ver at xs
  change xs.length ≤ _ at hl
  have hl := len63 hl
  clear hp
  have hz := idxF_pos ordered1 xs 0
  show vfun tab _ k151 Tryz.f151 [.sl VerT xs] [] _
  refine Ev.out ?_
  repeat' (first | ((with_reducible refine Ev.mk ?_); conv => whnf) | (with_reducible refine And.intro ?_ ?_) | (intro h))
  all_goals (try simp only [decide_eq_true_eq, decide_eq_false_iff_not, beq_iff_eq, bne_iff_ne, beq_eq_false_iff_ne, bne_eq_false_iff_eq, Int.toNat_natCast, ge_iff_le, gt_iff_lt, Bool.not_eq_true', Bool.not_eq_false', Int.not_lt, Int.not_le, ne_eq] at *)
  all_goals (try dsimp only [Ty.den, Ty.dflt, VerT, sIndexFunc] at *)
  all_goals (try simp only [eq4, ne4, eq3, ne3, eq2, ne2, Prod.eta, List.length_cons, List.length_nil, List.length_append, Nat.zero_add] at *)
  all_goals (try simp (disch := omega) only [wrap64] at *)
  all_goals try first | exact leafDraw (by kernel_rfl) | exact Leaf.mk trivial | (refine Leaf.mk ?_; omega) | (refine Leaf.mk ?_; unfold maxLen; omega)
  all_goals
    obtain ⟨n, hn⟩ : ∃ n : Nat, firstZ xs = n := ⟨_, rfl⟩
    have hle : n ≤ xs.length := by rw [← hn]; unfold firstZ; split <;> omega
  · have h1 : xs.length = n := by rw [← hn]; exact (if_pos h).symm
    refine LoopVC.on (fun i : Nat => [(3, .i .i64 n), (4, .i .i64 i)]) (fun _ => []) (fun i => 1 ≤ i ∧ OrdA xs i) (fun i => n - i) 1 (by rw [← h1]; rfl) ⟨by omega, fun j hj hj1 => by omega⟩ ?_
    intro i ⟨hi, he⟩
    repeat' (first | ((with_reducible refine Ev.mk ?_); conv => whnf) | (with_reducible refine And.intro ?_ ?_) | (intro h))
    all_goals (try simp only [decide_eq_true_eq, decide_eq_false_iff_not, beq_iff_eq, bne_iff_ne, beq_eq_false_iff_ne, bne_eq_false_iff_eq, Int.toNat_natCast, ge_iff_le, gt_iff_lt, Bool.not_eq_true', Bool.not_eq_false', Int.not_lt, Int.not_le, ne_eq] at *)
    all_goals (try dsimp only [Ty.den, Ty.dflt, VerT] at *)
    all_goals (try simp only [eq4, ne4, eq3, ne3, eq2, ne2, Prod.eta, List.length_cons, List.length_nil, List.length_append, Nat.zero_add] at *)
    all_goals (try simp (disch := omega) only [wrap64] at *)
    all_goals try first | exact leafDraw (by kernel_rfl) | exact Leaf.mk trivial | (refine Leaf.mk ?_; omega) | (refine Leaf.mk ?_; unfold maxLen; omega)
    all_goals first
      | (refine Leaf.mk (ret1 (show false = ordered xs from ?_))
         rw [eq_comm]; refine decide_eq_false fun hc => ?_
         have := hc.1 i (by omega) (by omega)
         rw [show ((i : Int) - 1).toNat = i - 1 by omega] at h
         dsimp only [ver0] at this
         omega)
      | (refine Leaf.mk ⟨i + 1, rfl, ⟨by omega, fun j hj h1 => ?_⟩, by omega⟩
         by_cases hji : j = i
         · subst hji
           rw [show ((j : Int) - 1).toNat = j - 1 by omega] at h
           exact h
         · exact he j (by omega) h1)
      | skip
    have he := OrdA_le he (show n ≤ i by omega)
    rw [List.take_length]
    obtain ⟨D, hD⟩ : ∃ D, xs.drop n = D := ⟨_, rfl⟩
    rw [hD]
    have hDl : D.length ≤ 9223372036854775807 := by rw [← hD]; simp; omega
    refine LoopVC.on (fun a : Nat × List (Int × Bool) => [(36, .i .i64 a.1)]) (fun a => [(0, .map (.int .i64) .bool a.2)]) (fun a => a.1 ≤ D.length ∧ ∃ s : List Int, (∀ c, mapGet (.int .i64) c false a.2 = true ↔ c ∈ s) ∧ (ordered xs = true ↔ OrdB (D.drop a.1) s)) (fun a => D.length - a.1) (0, []) rfl ⟨by simp, [], fun c => by simp [mapGet], ?_⟩ ?_
    · simp only [ordered, decide_eq_true_eq, hn, hD, he, true_and, List.drop_zero]
    intro ⟨m, l⟩ ⟨hm, s, hs, ho⟩
    dsimp only at hm hs ho ⊢
    repeat' (first | ((with_reducible refine Ev.mk ?_); conv => whnf) | (with_reducible refine And.intro ?_ ?_) | (intro h))
    all_goals (try simp only [decide_eq_true_eq, decide_eq_false_iff_not, beq_iff_eq, bne_iff_ne, beq_eq_false_iff_ne, bne_eq_false_iff_eq, Int.toNat_natCast, ge_iff_le, gt_iff_lt, Bool.not_eq_true', Bool.not_eq_false', Int.not_lt, Int.not_le, ne_eq] at *)
    all_goals (try dsimp only [Ty.den, Ty.dflt, VerT] at *)
    all_goals (try simp only [eq4, ne4, eq3, ne3, eq2, ne2, Prod.eta, List.length_cons, List.length_nil, List.length_append, Nat.zero_add] at *)
    all_goals (try simp (disch := omega) only [wrap64] at *)
    all_goals try first | exact leafDraw (by kernel_rfl) | exact Leaf.mk trivial | (refine Leaf.mk ?_; omega) | (refine Leaf.mk ?_; unfold maxLen; omega)
    change m ≤ D.length at hm
    all_goals first
      | (rw [drop_end (show D.length ≤ m by omega)] at ho
         exact Leaf.mk (ret1 (show true = ordered xs from (ho.2 trivial).symm)))
      | (rw [OrdB_at (by omega)] at ho
         refine Leaf.mk (ret1 (show false = ordered xs from ?_))
         rw [eq_comm, ← Bool.not_eq_true, ho]
         intro hc
         first | exact h hc.1 | exact hc.2.1 ((hs _).1 (by assumption)))
      | (rw [OrdB_at (by omega)] at ho
         refine Leaf.mk ⟨(m + 1, _), rfl, ⟨by show m + 1 ≤ _; omega, (D.getD m ver0).1 :: s, fun c => ?_, ?_⟩, by show _ - (m + 1) < _; omega⟩
         · show mapGet (.int .i64) c false (mapPut (.int .i64) (D.getD m ver0).1 true l) = true ↔ _
           rw [mapGet_put keyEq_int, List.mem_cons]
           split
           · rename_i hk; simp [(keyEq_int _ _).1 hk]
           · rename_i hk
             rw [keyEq_int] at hk
             rw [hs]
             exact ⟨Or.inr, fun hh => hh.elim (fun e => absurd e hk) id⟩
         · rw [ho]
           refine ⟨fun hc => hc.2.2, fun hc => ⟨h, fun hin => ?_, hc⟩⟩
           have hq := (hs _).2 hin
           exact Bool.noConfusion (hq.symm.trans ‹mapGet (.int .i64) _ false l = false›))
  · have h1 : idxF ordered1 xs 0 = n := by rw [← hn]; show _ = ((if idxF ordered1 xs 0 < 0 then xs.length else (idxF ordered1 xs 0).toNat : Nat) : Int); rw [if_neg (show ¬ idxF ordered1 xs 0 < 0 from Int.not_lt.2 h)]; have h : 0 ≤ idxF ordered1 xs 0 := h; omega
    refine LoopVC.on (fun i : Nat => [(3, .i .i64 n), (4, .i .i64 i)]) (fun _ => []) (fun i => 1 ≤ i ∧ OrdA xs i) (fun i => n - i) 1 (by rw [← h1]; rfl) ⟨by omega, fun j hj hj1 => by omega⟩ ?_
    intro i ⟨hi, he⟩
    repeat' (first | ((with_reducible refine Ev.mk ?_); conv => whnf) | (with_reducible refine And.intro ?_ ?_) | (intro h))
    all_goals (try simp only [decide_eq_true_eq, decide_eq_false_iff_not, beq_iff_eq, bne_iff_ne, beq_eq_false_iff_ne, bne_eq_false_iff_eq, Int.toNat_natCast, ge_iff_le, gt_iff_lt, Bool.not_eq_true', Bool.not_eq_false', Int.not_lt, Int.not_le, ne_eq] at *)
    all_goals (try dsimp only [Ty.den, Ty.dflt, VerT] at *)
    all_goals (try simp only [eq4, ne4, eq3, ne3, eq2, ne2, Prod.eta, List.length_cons, List.length_nil, List.length_append, Nat.zero_add] at *)
    all_goals (try simp (disch := omega) only [wrap64] at *)
    all_goals try first | exact leafDraw (by kernel_rfl) | exact Leaf.mk trivial | (refine Leaf.mk ?_; omega) | (refine Leaf.mk ?_; unfold maxLen; omega)
    all_goals first
      | (refine Leaf.mk (ret1 (show false = ordered xs from ?_))
         rw [eq_comm]; refine decide_eq_false fun hc => ?_
         have := hc.1 i (by omega) (by omega)
         rw [show ((i : Int) - 1).toNat = i - 1 by omega] at h
         dsimp only [ver0] at this
         omega)
      | (refine Leaf.mk ⟨i + 1, rfl, ⟨by omega, fun j hj h1 => ?_⟩, by omega⟩
         by_cases hji : j = i
         · subst hji
           rw [show ((j : Int) - 1).toNat = j - 1 by omega] at h
           exact h
         · exact he j (by omega) h1)
      | skip
    have he := OrdA_le he (show n ≤ i by omega)
    rw [List.take_length]
    obtain ⟨D, hD⟩ : ∃ D, xs.drop n = D := ⟨_, rfl⟩
    rw [hD]
    have hDl : D.length ≤ 9223372036854775807 := by rw [← hD]; simp; omega
    refine LoopVC.on (fun a : Nat × List (Int × Bool) => [(36, .i .i64 a.1)]) (fun a => [(0, .map (.int .i64) .bool a.2)]) (fun a => a.1 ≤ D.length ∧ ∃ s : List Int, (∀ c, mapGet (.int .i64) c false a.2 = true ↔ c ∈ s) ∧ (ordered xs = true ↔ OrdB (D.drop a.1) s)) (fun a => D.length - a.1) (0, []) rfl ⟨by simp, [], fun c => by simp [mapGet], ?_⟩ ?_
    · simp only [ordered, decide_eq_true_eq, hn, hD, he, true_and, List.drop_zero]
    intro ⟨m, l⟩ ⟨hm, s, hs, ho⟩
    dsimp only at hm hs ho ⊢
    repeat' (first | ((with_reducible refine Ev.mk ?_); conv => whnf) | (with_reducible refine And.intro ?_ ?_) | (intro h))
    all_goals (try simp only [decide_eq_true_eq, decide_eq_false_iff_not, beq_iff_eq, bne_iff_ne, beq_eq_false_iff_ne, bne_eq_false_iff_eq, Int.toNat_natCast, ge_iff_le, gt_iff_lt, Bool.not_eq_true', Bool.not_eq_false', Int.not_lt, Int.not_le, ne_eq] at *)
    all_goals (try dsimp only [Ty.den, Ty.dflt, VerT] at *)
    all_goals (try simp only [eq4, ne4, eq3, ne3, eq2, ne2, Prod.eta, List.length_cons, List.length_nil, List.length_append, Nat.zero_add] at *)
    all_goals (try simp (disch := omega) only [wrap64] at *)
    all_goals try first | exact leafDraw (by kernel_rfl) | exact Leaf.mk trivial | (refine Leaf.mk ?_; omega) | (refine Leaf.mk ?_; unfold maxLen; omega)
    change m ≤ D.length at hm
    all_goals first
      | (rw [drop_end (show D.length ≤ m by omega)] at ho
         exact Leaf.mk (ret1 (show true = ordered xs from (ho.2 trivial).symm)))
      | (rw [OrdB_at (by omega)] at ho
         refine Leaf.mk (ret1 (show false = ordered xs from ?_))
         rw [eq_comm, ← Bool.not_eq_true, ho]
         intro hc
         first | exact h hc.1 | exact hc.2.1 ((hs _).1 (by assumption)))
      | (rw [OrdB_at (by omega)] at ho
         refine Leaf.mk ⟨(m + 1, _), rfl, ⟨by show m + 1 ≤ _; omega, (D.getD m ver0).1 :: s, fun c => ?_, ?_⟩, by show _ - (m + 1) < _; omega⟩
         · show mapGet (.int .i64) c false (mapPut (.int .i64) (D.getD m ver0).1 true l) = true ↔ _
           rw [mapGet_put keyEq_int, List.mem_cons]
           split
           · rename_i hk; simp [(keyEq_int _ _).1 hk]
           · rename_i hk
             rw [keyEq_int] at hk
             rw [hs]
             exact ⟨Or.inr, fun hh => hh.elim (fun e => absurd e hk) id⟩
         · rw [ho]
           refine ⟨fun hc => hc.2.2, fun hc => ⟨h, fun hin => ?_, hc⟩⟩
           have hq := (hs _).2 hin
           exact Bool.noConfusion (hq.symm.trans ‹mapGet (.int .i64) _ false l = false›))
end Go.Proofs.YtkmfjlfejdoehaaGreat

set_option linter.unusedVariables false
set_option linter.unusedSimpArgs false
namespace Go.Proofs.YtkmfjlfejdoehaaGreat
open Go.Eng
def firstBad : List Ver → Int
  | [] => 0
  | v :: r => if verC v = 0 then firstBad r else verC v
def check (s : Stk) : Int := if 16 < s.1.length then 5 else if 8 < s.2.length then 7 else if firstBad s.2 = 0 then (if ordered s.2 = true then 0 else 12) else firstBad s.2
def sCheck : PSpec := ⟨[.d StT], [⟨false, [.d (.int .i64)]⟩], fun _ => True, fun x => ((check x.1, ()), ())⟩
theorem firstBad_at {xs : List Ver} {i : Nat} (h : i < xs.length) : firstBad (xs.drop i) = if verC (xs.getD i ver0) = 0 then firstBad (xs.drop (i + 1)) else verC (xs.getD i ver0) := by
  rw [drop_at ver0 h, firstBad]
theorem fCheck : FnOk Tryz.prog 84 := ⟨_, Tryz.func84, by decide, rfl⟩
theorem pCheck : PSound Tryz.prog 84 sCheck := by
  refine psound (T := tab) (S := (spOf [(150, sVersion.spec (lsOf [])), (151, sOrdered.spec (lsOf []))])) (keep := k84) (by kernel_rfl) tabOk (spCons (pOk pVersion fVersion (by decide) lsNil) (spCons (pOk pOrdered fOrdered (by decide) lsNil) spNil)) (by kernel_rfl) Tryz.func84 (by kernel_rfl) (by decide) fun xs hg hp => ?_
  obtain ⟨⟨key, xs⟩, ⟨⟩⟩ := xs
  obtain ⟨⟨hk, hl, hx⟩, -⟩ := hg
  change List UInt8 at key
  change List Ver at xs
  change xs.length ≤ _ at hl
  have hl := len63 hl
  clear hp
  show vfun tab _ k84 Tryz.f84 [.agg [.s key, .sl VerT xs]] [] _
  refine Ev.out ?_
  repeat' (first | ((with_reducible refine Ev.mk ?_); conv => whnf) | (with_reducible refine And.intro ?_ ?_) | (intro h))
  all_goals (try simp only [decide_eq_true_eq, decide_eq_false_iff_not, beq_iff_eq, bne_iff_ne, beq_eq_false_iff_ne, bne_eq_false_iff_eq, Int.toNat_natCast, ge_iff_le, gt_iff_lt, Bool.not_eq_true', Bool.not_eq_false', Int.not_lt, Int.not_le, ne_eq] at *)
  all_goals (try dsimp only [Ty.den, Ty.dflt, VerT, sVersion, sOrdered] at *)
  all_goals (try simp only [eq4, ne4, eq3, ne3, eq2, ne2, Prod.eta, List.length_cons, List.length_nil, List.length_append, Nat.zero_add] at *)
  all_goals (try simp (disch := omega) only [wrap64] at *)
  all_goals try first | exact leafDraw (by kernel_rfl) | exact Leaf.mk trivial | (refine Leaf.mk ?_; omega) | (refine Leaf.mk ?_; unfold maxLen; omega)
  · refine Leaf.mk (ret1 (show (5 : Int) = check (key, xs) from ?_))
    rw [check, if_pos (show 16 < key.length by omega)]
  · refine Leaf.mk (ret1 (show (7 : Int) = check (key, xs) from ?_))
    rw [check, if_neg (show ¬ 16 < key.length by omega), if_pos (show 8 < xs.length by omega)]
  have hC : check (key, xs) = if firstBad xs = 0 then (if ordered xs = true then 0 else 12) else firstBad xs := by
    rw [check, if_neg (show ¬ 16 < key.length by omega), if_neg (show ¬ 8 < xs.length by omega)]
  refine LoopVC.on (fun i : Nat => [(19, .i .i64 i)]) (fun _ => []) (fun i => i ≤ xs.length ∧ firstBad xs = firstBad (xs.drop i)) (fun i => xs.length - i) 0 rfl ⟨by omega, rfl⟩ ?_
  intro i ⟨hi, he⟩
  repeat' (first | ((with_reducible refine Ev.mk ?_); conv => whnf) | (with_reducible refine And.intro ?_ ?_) | (intro h))
  all_goals (try simp only [decide_eq_true_eq, decide_eq_false_iff_not, beq_iff_eq, bne_iff_ne, beq_eq_false_iff_ne, bne_eq_false_iff_eq, Int.toNat_natCast, ge_iff_le, gt_iff_lt, Bool.not_eq_true', Bool.not_eq_false', Int.not_lt, Int.not_le, ne_eq] at *)
  all_goals (try dsimp only [Ty.den, Ty.dflt, VerT, sVersion, sOrdered] at *)
  all_goals (try simp only [eq4, ne4, eq3, ne3, eq2, ne2, Prod.eta, List.length_cons, List.length_nil, List.length_append, Nat.zero_add] at *)
  all_goals (try simp (disch := omega) only [wrap64] at *)
  all_goals try first | exact leafDraw (by kernel_rfl) | exact Leaf.mk trivial | (refine Leaf.mk ?_; omega) | (refine Leaf.mk ?_; unfold maxLen; omega)
  · rw [firstBad_at (by omega), if_neg (show ¬ verC (xs.getD i ver0) = 0 from h)] at he
    refine Leaf.mk (ret1 (show verC (xs.getD i ver0) = check (key, xs) from ?_))
    rw [hC, he, if_neg (show ¬ verC (xs.getD i ver0) = 0 from h)]
  · rw [firstBad_at (by omega), if_pos (show verC (xs.getD i ver0) = 0 from h)] at he
    exact Leaf.mk ⟨i + 1, rfl, ⟨by omega, he⟩, by omega⟩
  · rw [drop_end (by omega)] at he
    refine Leaf.mk (ret1 (show (12 : Int) = check (key, xs) from ?_))
    rw [hC, if_pos (show firstBad xs = 0 from he), if_neg (by rw [h]; simp)]
  · rw [drop_end (by omega)] at he
    refine Leaf.mk (ret1 (show (0 : Int) = check (key, xs) from ?_))
    rw [hC, if_pos (show firstBad xs = 0 from he), if_pos h]
def sCloneV : PSpec := ⟨[.d (.slice VerT)], [⟨false, [.o 121 VerT]⟩], fun x => x.1.length ≤ 1000000, fun x => ((x.1, ()), ())⟩
theorem fCloneV : FnOk Tryz.prog 129 := ⟨_, Tryz.func129, by decide, rfl⟩
theorem pCloneV : PSound Tryz.prog 129 sCloneV := by
  refine psound (T := tab) (S := (spOf [])) (keep := k129) (by kernel_rfl) tabOk spNil (by kernel_rfl) Tryz.func129 (by kernel_rfl) (by decide) fun xs hg hp => ?_
  obtain ⟨xs, ⟨⟩⟩ := xs
  obtain ⟨⟨hl, -⟩, -⟩ := hg
  change List Ver at xs
  clear hl
  change xs.length ≤ 1000000 at hp
  show vfun tab _ k129 Tryz.f129 [.sl VerT xs] [] _
  refine Ev.out ?_
  repeat' (first | ((with_reducible refine Ev.mk ?_); conv => whnf) | (with_reducible refine And.intro ?_ ?_) | (intro h))
  all_goals (try simp only [decide_eq_true_eq, decide_eq_false_iff_not, beq_iff_eq, bne_iff_ne, beq_eq_false_iff_ne, bne_eq_false_iff_eq, Int.toNat_natCast, ge_iff_le, gt_iff_lt, Bool.not_eq_true', Bool.not_eq_false', Int.not_lt, Int.not_le, ne_eq] at *)
  all_goals (try dsimp only [Ty.den, Ty.dflt, VerT] at *)
  all_goals (try simp only [eq4, ne4, eq3, ne3, eq2, ne2, Prod.eta, List.length_cons, List.length_nil, List.length_append, Nat.zero_add] at *)
  all_goals (try simp (disch := omega) only [wrap64] at *)
  all_goals try first | exact leafDraw (by kernel_rfl) | exact Leaf.mk trivial | (refine Leaf.mk ?_; omega) | (refine Leaf.mk ?_; unfold maxLen; omega)
  all_goals first
    | (refine Leaf.mk (ret1 (show ([] : List Ver) = xs from ?_)); exact (List.eq_nil_of_length_eq_zero (by omega)).symm)
    | exact Leaf.mk (ret1 rfl)
    | skip
def sOwn : PSpec := ⟨[.d StT], [⟨true, [.d .str, .o 121 VerT]⟩], fun x => List.length x.1.2 ≤ 1000000, fun x => ((x.1.1, (x.1.2, ())), ())⟩
theorem fOwn : FnOk Tryz.prog 183 := ⟨_, Tryz.func183, by decide, rfl⟩
theorem pOwn : PSound Tryz.prog 183 sOwn := by
  refine psound (T := tab) (S := (spOf [(129, sCloneV.spec (lsOf []))])) (keep := k183) (by kernel_rfl) tabOk (spCons (pOk pCloneV fCloneV (by decide) lsNil) spNil) (by kernel_rfl) Tryz.func183 (by kernel_rfl) (by decide) fun xs hg hp => ?_
  obtain ⟨⟨key, xs⟩, ⟨⟩⟩ := xs
  change List UInt8 at key
  change List Ver at xs
  change xs.length ≤ 1000000 at hp
  show vfun tab _ k183 Tryz.f183 [.agg [.s key, .sl VerT xs]] [] _
  refine Ev.out ?_
  repeat' (first | ((with_reducible refine Ev.mk ?_); conv => whnf) | (with_reducible refine And.intro ?_ ?_) | (intro h))
  all_goals (try simp only [decide_eq_true_eq, decide_eq_false_iff_not, beq_iff_eq, bne_iff_ne, beq_eq_false_iff_ne, bne_eq_false_iff_eq, Int.toNat_natCast, ge_iff_le, gt_iff_lt, Bool.not_eq_true', Bool.not_eq_false', Int.not_lt, Int.not_le, ne_eq] at *)
  all_goals (try dsimp only [Ty.den, Ty.dflt, VerT, sCloneV] at *)
  all_goals (try simp only [eq4, ne4, eq3, ne3, eq2, ne2, Prod.eta, List.length_cons, List.length_nil, List.length_append, Nat.zero_add] at *)
  all_goals (try simp (disch := omega) only [wrap64] at *)
  all_goals try first | exact leafDraw (by kernel_rfl) | exact Leaf.mk trivial | (refine Leaf.mk ?_; omega) | (refine Leaf.mk ?_; unfold maxLen; omega)
  exact Leaf.mk rfl
def lPlace1 : LSpec := ⟨VerT, .bool, [.bx (.int .i64)], fun v c => roomP c.1 v⟩
theorem fPlace1 : FnOk Tryz.prog 223 := ⟨_, Tryz.func223, by decide, rfl⟩
theorem pPlace1 : PSound Tryz.prog 223 lPlace1.p := by
  refine psound (T := tab) (S := (spOf [])) (keep := k223) (by kernel_rfl) tabOk spNil (by kernel_rfl) Tryz.func223 (by kernel_rfl) (by decide) fun xs hg hp => ?_
  obtain ⟨⟨txn, ts, gone, val⟩, me, ⟨⟩⟩ := xs
  show vfun tab _ k223 Tryz.f223 [.agg [.i .i64 txn, .i .i64 ts, .b gone, .s val], .rp [.i .i64 me]] [] _
  refine Ev.out ?_
  repeat' (first | ((with_reducible refine Ev.mk ?_); conv => whnf) | (with_reducible refine And.intro ?_ ?_) | (intro h))
  · exact Leaf.mk (ret1 (show (txn == me) = ((ts == 0) && (txn == me)) by rw [h]; rfl))
  · exact Leaf.mk (ret1 (show false = ((ts == 0) && (txn == me)) by rw [h]; rfl))
def sPlace : PSpec := ⟨[.d StT, .d (.int .i64)], [⟨false, [.d (.int .i64)]⟩], fun _ => True, fun x => ((idxF (roomP x.2.1) x.1.2 0, ()), ())⟩
theorem fPlace : FnOk Tryz.prog 184 := ⟨_, Tryz.func184, by decide, rfl⟩
theorem pPlace : PSound Tryz.prog 184 sPlace := by
  refine psound (T := tab) (S := (spOf [(198, sIndexFunc.spec (lsOf [(223, lPlace1)]))])) (keep := k184) (by kernel_rfl) tabOk (spCons (pOk pIndexFunc fIndexFunc (by decide) ((lsCons ⟨pPlace1, fPlace1⟩ lsNil))) spNil) (by kernel_rfl) Tryz.func184 (by kernel_rfl) (by decide) fun xs hg hp => ?_
  obtain ⟨⟨key, xs⟩, me, ⟨⟩⟩ := xs
  show vfun tab _ k184 Tryz.f184 [.agg [.s key, .sl VerT xs], .i .i64 me] [] _
  refine Ev.out ?_
  repeat' (first | ((with_reducible refine Ev.mk ?_); conv => whnf) | (with_reducible refine And.intro ?_ ?_) | (intro h))
  · exact Leaf.mk trivial
  · exact Leaf.mk rfl
theorem retS {k : List UInt8} {xs : List Ver} {s : Stk} (h : (k, xs) = s) : (some ((k, (xs, ())), ()) : Option ((List UInt8 × List Ver × Unit) × Unit)) = some ((s.1, (s.2, ())), ()) := by rw [← h]
def write (s : Stk) (v : Ver) : Stk :=
  if 0 ≤ idxF (roomP v.1) s.2 0 then (s.1, s.2.set (idxF (roomP v.1) s.2 0).toNat (v.1, 0, v.2.2)) else if s.2.length < 8 then (s.1, s.2 ++ [(v.1, 0, v.2.2)]) else s
def sWrite : PSpec := ⟨[.d StT, .d VerT], [⟨true, [.d .str, .o 121 VerT]⟩], fun x => List.length x.1.2 ≤ 100000, fun x => (((write x.1 x.2.1).1, ((write x.1 x.2.1).2, ())), ())⟩
theorem fWrite : FnOk Tryz.prog 133 := ⟨_, Tryz.func133, by decide, rfl⟩
theorem pWrite : PSound Tryz.prog 133 sWrite := by
  refine psound (T := tab) (S := (spOf [(183, sOwn.spec (lsOf [])), (184, sPlace.spec (lsOf []))])) (keep := k133) (by kernel_rfl) tabOk (spCons (pOk pOwn fOwn (by decide) lsNil) (spCons (pOk pPlace fPlace (by decide) lsNil) spNil)) (by kernel_rfl) Tryz.func133 (by kernel_rfl) (by decide) fun xs hg hp => ?_
  obtain ⟨⟨key, xs⟩, ⟨txn, ts, gone, val⟩, ⟨⟩⟩ := xs
  change List UInt8 at key
  change List Ver at xs
  change xs.length ≤ 100000 at hp
  have hz := idxF_pos (roomP txn) xs 0
  show vfun tab _ k133 Tryz.f133 [.agg [.s key, .sl VerT xs], .agg [.i .i64 txn, .i .i64 ts, .b gone, .s val]] [] _
  refine Ev.out ?_
  repeat' (first | ((with_reducible refine Ev.mk ?_); conv => whnf) | (with_reducible refine And.intro ?_ ?_) | (intro h))
  all_goals (try simp only [decide_eq_true_eq, decide_eq_false_iff_not, beq_iff_eq, bne_iff_ne, beq_eq_false_iff_ne, bne_eq_false_iff_eq, Int.toNat_natCast, ge_iff_le, gt_iff_lt, Bool.not_eq_true', Bool.not_eq_false', Int.not_lt, Int.not_le, ne_eq] at *)
  all_goals (try dsimp only [Ty.den, Ty.dflt, VerT, sOwn, sPlace] at *)
  all_goals (try simp only [eq4, ne4, eq3, ne3, eq2, ne2, Prod.eta, List.length_cons, List.length_nil, List.length_append, Nat.zero_add] at *)
  all_goals (try simp (disch := omega) only [wrap64] at *)
  all_goals try first | exact leafDraw (by kernel_rfl) | exact Leaf.mk trivial | (refine Leaf.mk ?_; omega) | (refine Leaf.mk ?_; unfold maxLen; omega)
  · refine Leaf.mk (retS (s := write (key, xs) (txn, ts, gone, val)) ?_)
    exact (if_pos h).symm
  · refine Leaf.mk (retS (s := write (key, xs) (txn, ts, gone, val)) ?_)
    exact ((if_neg (Int.not_le.2 ‹idxF (roomP txn) xs 0 < 0›)).trans (if_pos (show xs.length < 8 by omega))).symm
  · refine Leaf.mk (retS (s := write (key, xs) (txn, ts, gone, val)) ?_)
    exact ((if_neg (Int.not_le.2 ‹idxF (roomP txn) xs 0 < 0›)).trans (if_neg (show ¬ xs.length < 8 by omega))).symm
end Go.Proofs.YtkmfjlfejdoehaaGreat

set_option linter.unusedVariables false
set_option linter.unusedSimpArgs false
set_option maxRecDepth 8000
namespace Go.Proofs.YtkmfjlfejdoehaaGreat
open Go.Eng
def slotN (ts : Int) (ys : List Ver) : Nat → Nat
  | 0 => 0
  | n + 1 => if (ys.getD n ver0).2.1 = 0 ∨ ts < (ys.getD n ver0).2.1 then slotN ts ys n else n + 1
def cut (xs : List Ver) (i : Nat) : List Ver := xs.take i ++ xs.drop (i + 1)
def commit (s : Stk) (me ts : Int) : Stk :=
  if idxF (roomP me) s.2 0 < 0 ∨ ts < 1 then s else
    (s.1, (cut s.2 (idxF (roomP me) s.2 0).toNat).take (slotN ts (cut s.2 (idxF (roomP me) s.2 0).toNat) (cut s.2 (idxF (roomP me) s.2 0).toNat).length) ++ ([((s.2.getD (idxF (roomP me) s.2 0).toNat ver0).1, ts, (s.2.getD (idxF (roomP me) s.2 0).toNat ver0).2.2)] ++ (cut s.2 (idxF (roomP me) s.2 0).toNat).drop (slotN ts (cut s.2 (idxF (roomP me) s.2 0).toNat) (cut s.2 (idxF (roomP me) s.2 0).toNat).length)))
def sCommit : PSpec := ⟨[.d StT, .d (.int .i64), .d (.int .i64)], [⟨true, [.d .str, .o 121 VerT]⟩], fun x => List.length x.1.2 ≤ 100000, fun x => (((commit x.1 x.2.1 x.2.2.1).1, ((commit x.1 x.2.1 x.2.2.1).2, ())), ())⟩
theorem fCommit : FnOk Tryz.prog 130 := ⟨_, Tryz.func130, by decide, rfl⟩
theorem pCommit : PSound Tryz.prog 130 sCommit := by
  refine psound (T := tab) (S := (spOf [(183, sOwn.spec (lsOf [])), (184, sPlace.spec (lsOf [])), (185, sDeleteV.spec), (186, sInsertV.spec)])) (keep := k130) (by kernel_rfl) tabOk (spCons (pOk pOwn fOwn (by decide) lsNil) (spCons (pOk pPlace fPlace (by decide) lsNil) (spCons (.inl ⟨pDeleteV, fDeleteV⟩) (spCons (.inl ⟨pInsertV, fInsertV⟩) spNil)))) (by kernel_rfl) Tryz.func130 (by kernel_rfl) (by decide) fun xs hg hp => ?_
  obtain ⟨⟨key, xs⟩, me, ts, ⟨⟩⟩ := xs
  change List UInt8 at key
  change List Ver at xs
  change Int at me
  change Int at ts
  change xs.length ≤ 100000 at hp
  have hz := idxF_pos (roomP me) xs 0
  show vfun tab _ k130 Tryz.f130 [.agg [.s key, .sl VerT xs], .i .i64 me, .i .i64 ts] [] _
  refine Ev.out ?_
  repeat' (first | ((with_reducible refine Ev.mk ?_); conv => whnf) | (with_reducible refine And.intro ?_ ?_) | (intro h))
  all_goals (try simp only [decide_eq_true_eq, decide_eq_false_iff_not, beq_iff_eq, bne_iff_ne, beq_eq_false_iff_ne, bne_eq_false_iff_eq, Int.toNat_natCast, ge_iff_le, gt_iff_lt, Bool.not_eq_true', Bool.not_eq_false', Int.not_lt, Int.not_le, ne_eq] at *)
  all_goals (try dsimp only [Ty.den, Ty.dflt, VerT, sOwn, sPlace] at *)
  all_goals (try simp only [eq4, ne4, eq3, ne3, eq2, ne2, Prod.eta, List.length_cons, List.length_nil, List.length_append, Nat.zero_add] at *)
  all_goals (try simp (disch := omega) only [wrap64] at *)
  all_goals try first | exact leafDraw (by kernel_rfl) | exact Leaf.mk trivial | (refine Leaf.mk ?_; omega) | (refine Leaf.mk ?_; unfold maxLen; omega)
  · refine Leaf.mk (retS (s := commit (key, xs) me ts) ?_)
    exact (if_pos (.inl h)).symm
  · refine Leaf.mk (retS (s := commit (key, xs) me ts) ?_)
    exact (if_pos (.inr h)).symm
  · refine Leaf.mk (?_ : 0 ≤ idxF (roomP me) xs 0 ∧ idxF (roomP me) xs 0 ≤ idxF (roomP me) xs 0 + 1 ∧ idxF (roomP me) xs 0 + 1 ≤ (xs.length : Int) ∧ xs.length ≤ 1000000)
    omega
  obtain ⟨p, hp0⟩ := Int.eq_ofNat_of_zero_le (show 0 ≤ idxF (roomP me) xs 0 by omega)
  have hpl : p < xs.length := by omega
  have hC : commit (key, xs) me ts = (key, (cut xs p).take (slotN ts (cut xs p) (cut xs p).length) ++ ([((xs.getD p ver0).1, ts, (xs.getD p ver0).2.2)] ++ (cut xs p).drop (slotN ts (cut xs p) (cut xs p).length))) := by
    refine (if_neg (show ¬ (idxF (roomP me) xs 0 < 0 ∨ ts < 1) by omega)).trans ?_
    show (key, _) = _
    dsimp only
    rw [hp0, Int.toNat_natCast]
  have hD : sDeleteV.fn xs (idxF (roomP me) xs 0, idxF (roomP me) xs 0 + 1, ()) = cut xs p := by
    show xs.take (idxF (roomP me) xs 0).toNat ++ xs.drop (idxF (roomP me) xs 0 + 1).toNat = _
    rw [show (idxF (roomP me) xs 0).toNat = p by omega, show (idxF (roomP me) xs 0 + 1).toNat = p + 1 by omega]; rfl
  rw [show (idxF (roomP me) xs 0).toNat = p by omega]
  have hyl : (cut xs p).length ≤ 100000 := by simp [cut]; omega
  generalize hys : cut xs p = ys at *
  refine LoopVC.on (fun n : Nat => [(9, .i .i64 n)]) (fun _ => [(3, .arr 121 VerT ys)]) (fun n => n ≤ ys.length ∧ slotN ts ys ys.length = slotN ts ys n) (fun n => n) ys.length (by rw [← hD]; rfl) ⟨Nat.le_refl _, rfl⟩ ?_
  intro n ⟨hn, he⟩
  repeat' (first | ((with_reducible refine Ev.mk ?_); conv => whnf) | (with_reducible refine And.intro ?_ ?_) | (intro h))
  all_goals (try simp only [decide_eq_true_eq, decide_eq_false_iff_not, beq_iff_eq, bne_iff_ne, beq_eq_false_iff_ne, bne_eq_false_iff_eq, Int.toNat_natCast, ge_iff_le, gt_iff_lt, Bool.not_eq_true', Bool.not_eq_false', Int.not_lt, Int.not_le, ne_eq] at *)
  all_goals (try dsimp only [Ty.den, Ty.dflt, VerT] at *)
  all_goals (try simp only [eq4, ne4, eq3, ne3, eq2, ne2, Prod.eta, List.length_cons, List.length_nil, List.length_append, Nat.zero_add] at *)
  all_goals (try simp (disch := omega) only [wrap64] at *)
  all_goals try first | exact leafDraw (by kernel_rfl) | exact Leaf.mk trivial | (refine Leaf.mk ?_; omega) | (refine Leaf.mk ?_; unfold maxLen; omega)
  all_goals first
    | (refine Leaf.mk (?_ : (0 : Int) ≤ (n : Int) ∧ (n : Int) ≤ (ys.length : Int) ∧ ys.length + 1 ≤ 1000000); omega)
    | skip
  · obtain ⟨m, rfl⟩ : ∃ m, n = m + 1 := ⟨n - 1, by omega⟩
    have e : (((m + 1 : Nat) : Int) - 1).toNat = m := by omega
    rw [e] at h
    rw [show ((m + 1 : Nat) : Int) - 1 = (m : Nat) by omega]
    refine Leaf.mk ⟨m, rfl, ⟨by omega, ?_⟩, by omega⟩
    rw [he, slotN, if_pos (.inl h)]
  · obtain ⟨m, rfl⟩ : ∃ m, n = m + 1 := ⟨n - 1, by omega⟩
    have e : (((m + 1 : Nat) : Int) - 1).toNat = m := by omega
    rw [e] at h
    rw [show ((m + 1 : Nat) : Int) - 1 = (m : Nat) by omega]
    refine Leaf.mk ⟨m, rfl, ⟨by omega, ?_⟩, by omega⟩
    rw [he, slotN, if_pos (.inr h)]
  · obtain ⟨m, rfl⟩ : ∃ m, n = m + 1 := ⟨n - 1, by omega⟩
    have e : (((m + 1 : Nat) : Int) - 1).toNat = m := by omega
    rename_i hnz
    rw [e] at h hnz
    have hs : slotN ts ys ys.length = m + 1 := by
      rw [he, slotN, if_neg (fun hc => ?_)]
      rcases hc with hc | hc
      · exact hnz hc
      · exact absurd hc (Int.not_lt.2 h)
    refine Leaf.mk (retS (s := commit (key, xs) me ts) ?_)
    rw [hC, hs]
    rfl
  · obtain rfl : n = 0 := by omega
    have hs : slotN ts ys ys.length = 0 := by rw [he, slotN]
    refine Leaf.mk (retS (s := commit (key, xs) me ts) ?_)
    rw [hC, hs]
    rfl
def lastN (at' : Int) (xs : List Ver) : Nat → Int
  | 0 => -1
  | n + 1 => if okTs at' (xs.getD n ver0) = true then n else lastN at' xs n
def dropP (at' last : Int) (n : Nat) (v : Ver) : Bool := okTs at' v && ((n : Int) != last || v.2.2.1)
def keepN (at' last : Int) (xs : List Ver) : Nat → List Ver
  | 0 => []
  | n + 1 => keepN at' last xs n ++ (if dropP at' last n (xs.getD n ver0) = true then [] else [xs.getD n ver0])
def prune (s : Stk) (at' : Int) : Stk := (s.1, keepN at' (lastN at' s.2 s.2.length) s.2 s.2.length)
theorem keepN_le (at' last : Int) (xs : List Ver) : ∀ n, (keepN at' last xs n).length ≤ n
  | 0 => Nat.le_refl _
  | n + 1 => by
    have := keepN_le at' last xs n
    unfold keepN
    rw [List.length_append]
    split <;> simp <;> omega
theorem fPrune1 : FnOk Tryz.prog 189 := ⟨_, Tryz.func189, by decide, rfl⟩
noncomputable def iPrune1 : Eng.Spec := inl tab (spOf []) k189 Tryz.f189
theorem pPrune1 : SpecOk Tryz.prog 189 iPrune1 := inl_ok tabOk spNil (by kernel_rfl) Tryz.func189 (by kernel_rfl)
theorem fPrune2 : FnOk Tryz.prog 190 := ⟨_, Tryz.func190, by decide, rfl⟩
noncomputable def iPrune2 : Eng.Spec := inl tab (spOf [(189, iPrune1)]) k190 Tryz.f190
theorem pPrune2 : SpecOk Tryz.prog 190 iPrune2 := inl_ok tabOk (spCons (.inl ⟨pPrune1, fPrune1⟩) spNil) (by kernel_rfl) Tryz.func190 (by kernel_rfl)
theorem fWithoutV : FnOk Tryz.prog 187 := ⟨_, Tryz.func187, by decide, rfl⟩
noncomputable def iWithoutV : Eng.Spec := inl tab (spOf [(190, iPrune2)]) k187 Tryz.f187
theorem pWithoutV : SpecOk Tryz.prog 187 iWithoutV := inl_ok tabOk (spCons (.inl ⟨pPrune2, fPrune2⟩) spNil) (by kernel_rfl) Tryz.func187 (by kernel_rfl)
def sPrune : PSpec := ⟨[.d StT, .d (.int .i64)], [⟨true, [.d .str, .o 121 VerT]⟩], fun x => List.length x.1.2 ≤ 100000, fun x => (((prune x.1 x.2.1).1, ((prune x.1 x.2.1).2, ())), ())⟩
theorem fPrune : FnOk Tryz.prog 132 := ⟨_, Tryz.func132, by decide, rfl⟩
theorem pPrune : PSound Tryz.prog 132 sPrune := by
  refine psound (T := tab) (S := (spOf [(189, iPrune1), (187, iWithoutV)])) (keep := k132) (by kernel_rfl) tabOk (spCons (.inl ⟨pPrune1, fPrune1⟩) (spCons (.inl ⟨pWithoutV, fWithoutV⟩) spNil)) (by kernel_rfl) Tryz.func132 (by kernel_rfl) (by decide) fun xs hg hp => ?_
  obtain ⟨⟨key, xs⟩, at', ⟨⟩⟩ := xs
  change List UInt8 at key
  change List Ver at xs
  change Int at at'
  change xs.length ≤ 100000 at hp
  show vfun tab _ k132 Tryz.f132 [.agg [.s key, .sl VerT xs], .i .i64 at'] [] _
  refine Ev.out ?_
  repeat' (first | ((with_reducible refine Ev.mk ?_); conv => whnf) | (with_reducible refine And.intro ?_ ?_) | (intro h))
  all_goals (try simp only [decide_eq_true_eq, decide_eq_false_iff_not, beq_iff_eq, bne_iff_ne, beq_eq_false_iff_ne, bne_eq_false_iff_eq, Int.toNat_natCast, ge_iff_le, gt_iff_lt, Bool.not_eq_true', Bool.not_eq_false', Int.not_lt, Int.not_le, ne_eq] at *)
  all_goals (try dsimp only [Ty.den, Ty.dflt, VerT] at *)
  all_goals (try simp only [eq4, ne4, eq3, ne3, eq2, ne2, Prod.eta, List.length_cons, List.length_nil, List.length_append, Nat.zero_add] at *)
  all_goals (try simp (disch := omega) only [wrap64] at *)
  all_goals try first | exact leafDraw (by kernel_rfl) | exact Leaf.mk trivial | (refine Leaf.mk ?_; omega) | (refine Leaf.mk ?_; unfold maxLen; omega)
  refine LoopVC.on (fun i : Nat => [(13, .i .i64 i)]) (fun i => [(3, .box [.i .i64 (lastN at' xs i)])]) (fun i => i ≤ xs.length) (fun i => xs.length - i) 0 rfl (by omega) ?_
  intro i hi
  repeat' (first | ((with_reducible refine Ev.mk ?_); conv => whnf) | (with_reducible refine And.intro ?_ ?_) | (intro h))
  all_goals (try simp only [decide_eq_true_eq, decide_eq_false_iff_not, beq_iff_eq, bne_iff_ne, beq_eq_false_iff_ne, bne_eq_false_iff_eq, Int.toNat_natCast, ge_iff_le, gt_iff_lt, Bool.not_eq_true', Bool.not_eq_false', Int.not_lt, Int.not_le, ne_eq] at *)
  all_goals (try dsimp only [Ty.den, Ty.dflt, VerT] at *)
  all_goals (try simp only [eq4, ne4, eq3, ne3, eq2, ne2, Prod.eta, List.length_cons, List.length_nil, List.length_append, Nat.zero_add] at *)
  all_goals (try simp (disch := omega) only [wrap64] at *)
  all_goals try first | exact leafDraw (by kernel_rfl) | exact Leaf.mk trivial | (refine Leaf.mk ?_; omega) | (refine Leaf.mk ?_; unfold maxLen; omega)
  · refine Leaf.mk ⟨i + 1, ?_, by omega, by omega⟩
    rw [lastN, if_pos (show okTs at' (xs.getD i ver0) = true from decide_eq_true ⟨‹_›, ‹_›⟩)]; rfl
  · refine Leaf.mk ⟨i + 1, ?_, by omega, by omega⟩
    rw [lastN, if_neg (show ¬ okTs at' (xs.getD i ver0) = true from fun hc => by have := of_decide_eq_true hc; dsimp only [ver0] at *; omega)]; rfl
  · refine Leaf.mk ⟨i + 1, ?_, by omega, by omega⟩
    rw [lastN, if_neg (show ¬ okTs at' (xs.getD i ver0) = true from fun hc => by have := of_decide_eq_true hc; dsimp only [ver0] at *; omega)]; rfl
  have hil : i = xs.length := by omega
  clear h hi
  subst hil
  obtain ⟨last, hlast⟩ : ∃ last, lastN at' xs xs.length = last := ⟨_, rfl⟩
  have hP : prune (key, xs) at' = (key, keepN at' last xs xs.length) := by rw [← hlast]; rfl
  rw [hlast]
  refine LoopVC.weak [(.slot 5, .nil 121 VerT)] (fun i : Nat => [(10, .i .i64 i)]) (fun i => [(29, .arr 121 VerT (keepN at' last xs i))]) (fun i => i ≤ xs.length) (fun i => xs.length - i) 0 (Ev.mk ?_)
  (conv => whnf)
  refine ⟨Leaf.mk rfl, Leaf.mk ?_, ?_⟩
  · omega
  intro i hi
  have hk := keepN_le at' last xs i
  repeat' (first | ((with_reducible refine Ev.mk ?_); conv => whnf) | (with_reducible refine And.intro ?_ ?_) | (intro h))
  all_goals (try simp only [decide_eq_true_eq, decide_eq_false_iff_not, beq_iff_eq, bne_iff_ne, beq_eq_false_iff_ne, bne_eq_false_iff_eq, Int.toNat_natCast, ge_iff_le, gt_iff_lt, Bool.not_eq_true', Bool.not_eq_false', Int.not_lt, Int.not_le, ne_eq] at *)
  all_goals (try dsimp only [Ty.den, Ty.dflt, VerT] at *)
  all_goals (try simp only [eq4, ne4, eq3, ne3, eq2, ne2, Prod.eta, List.length_cons, List.length_nil, List.length_append, Nat.zero_add] at *)
  all_goals (try simp (disch := omega) only [wrap64] at *)
  all_goals try first | exact leafDraw (by kernel_rfl) | exact Leaf.mk trivial | (refine Leaf.mk ?_; omega) | (refine Leaf.mk ?_; unfold maxLen; omega)
  all_goals first
    | (have hil : i = xs.length := by omega
       subst hil
       refine Leaf.mk (retS (s := prune (key, xs) at') ?_)
       rw [hP])
    | (refine Leaf.mk ⟨i + 1, ?_, by omega, by omega⟩
       rw [keepN]
       first
       | (rw [if_pos (show dropP at' last i (xs.getD i ver0) = true from ?_), List.append_nil]
          · rfl
          · simp only [dropP, okTs, ver0, Bool.and_eq_true, Bool.or_eq_true, decide_eq_true_eq, bne_iff_ne]
            first | exact ⟨⟨‹_›, ‹_›⟩, .inl ‹_›⟩ | exact ⟨⟨‹_›, ‹_›⟩, .inr ‹_›⟩)
       | (rw [if_neg (show ¬ dropP at' last i (xs.getD i ver0) = true from ?_)]
          · rfl
          · simp only [dropP, okTs, ver0, Bool.and_eq_true, Bool.or_eq_true, decide_eq_true_eq, bne_iff_ne]
            intro hc
            first | omega | (rcases hc.2 with hc | hc; exact hc ‹_›; rw [hc] at h; cases h)))
end Go.Proofs.YtkmfjlfejdoehaaGreat
