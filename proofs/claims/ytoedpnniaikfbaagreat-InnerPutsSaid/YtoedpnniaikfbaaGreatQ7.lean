import Derived.Test.YtoedpnniaikfbaaGreatQ6
import Derived.Test.YtoedpnniaikfbaaGreatTab
import Derived.Test.YtoedpnniaikfbaaGreatEng4
import Derived.Test.YtoedpnniaikfbaaGreatEng3
import Derived.Test.YtoedpnniaikfbaaGreatEng5
import Derived.Shelf.Sort.Plain
import Derived.Test.YtoedpnniaikfbaaGreatProg
/- Texts, one behind the other. -/
set_option linter.unusedVariables false
set_option linter.unusedSimpArgs false
namespace Go.Proofs.YtoedpnniaikfbaaGreat
open Go.Eng
theorem p8 : (256 : Int) ^ 8 = 18446744073709551616 := by decide
theorem widthN_zero : ∀ f, widthN f 0 = 0
  | 0 => rfl
  | f + 1 => by rw [widthN, if_neg (by omega)]
theorem widthN_hi : ∀ (f : Nat) (n : Int), 0 ≤ n → n < 256 ^ f → n < 256 ^ (widthN f n)
  | 0, n, h1, h2 => h2
  | f + 1, n, h1, h2 => by
    rw [Int.pow_succ] at h2
    rw [widthN]
    split
    · have := widthN_hi f (n / 256) (by omega) (Int.ediv_lt_of_lt_mul (by decide) h2)
      rw [Int.pow_succ]; omega
    · rw [Int.pow_zero]; omega
theorem widthN_lo : ∀ (f : Nat) (n : Int), 0 < n → n < 256 ^ f → ∃ w, widthN f n = w + 1 ∧ 256 ^ w ≤ n
  | 0, n, h1, h2 => by rw [Int.pow_zero] at h2; omega
  | f + 1, n, h1, h2 => by
    rw [Int.pow_succ] at h2
    rw [widthN, if_pos h1]
    refine ⟨_, rfl, ?_⟩
    by_cases h0 : n / 256 = 0
    · rw [h0, widthN_zero, Int.pow_zero]; omega
    · obtain ⟨w, hw, hl⟩ := widthN_lo f (n / 256) (by omega) (Int.ediv_lt_of_lt_mul (by decide) h2)
      rw [hw, Int.pow_succ]; omega
theorem txt_put (b : List Int) : ∀ (xs acc : List Int) (p : Nat), txt (putB xs ++ b) acc p = (acc ++ xs, ((p + (putB xs).length : Nat) : Int), 0)
  | [], acc, p => by
    show txt (0 :: 1 :: b) acc p = _
    rw [txt_esc rfl, if_pos rfl, List.append_nil]; rfl
  | x :: xs, acc, p => by
    rw [putB_cons, List.append_assoc]
    unfold escI
    by_cases h : x = 0
    · rw [if_pos h]
      show txt (0 :: 255 :: (putB xs ++ b)) acc p = _
      rw [txt_esc rfl, if_neg (by omega), if_pos rfl, txt_put b xs]
      subst h
      simp only [List.append_assoc, List.cons_append, List.nil_append, List.length_cons]
      congr 3; omega
    · rw [if_neg h]
      show txt (x :: (putB xs ++ b)) acc p = _
      rw [txt_ne h, txt_put b xs]
      simp only [List.append_assoc, List.cons_append, List.nil_append, List.length_cons]
      congr 3; omega
theorem getText_put (s : List UInt8) (b : List Int) : getText (putText s ++ b) = (s, (((putText s).length : Nat) : Int), 0) := by
  unfold getText putText
  rw [txt_put]
  simp [str_bytes]
theorem numB_lay : ∀ (k : Nat) (n : Int), 0 ≤ n → n < 256 ^ k → n ≤ 18446744073709551615 → numB (layB n k) = n
  | 0, n, h1, h2, _ => by rw [Int.pow_zero] at h2; rw [show n = 0 by omega]; rfl
  | k + 1, n, h1, h2, h3 => by
    rw [Int.pow_succ] at h2
    have ih := numB_lay k (n / 256) (by omega) (Int.ediv_lt_of_lt_mul (by decide) h2) (by omega)
    unfold numB at ih ⊢
    rw [layB, List.foldl_append, ih]
    simp only [List.foldl_cons, List.foldl_nil]
    omega
theorem lay_head {n : Int} (hn : 0 < n) (h : n ≤ 18446744073709551615) : ∃ c r w, widthN 8 n = w + 1 ∧ layB n (widthN 8 n) = c :: r ∧ ¬ c = 0 := by
  obtain ⟨w, hw, hl⟩ := widthN_lo 8 n hn (by rw [p8]; omega)
  have hh := widthN_hi 8 n (by omega) (by rw [p8]; omega)
  rw [hw, Int.pow_succ] at hh
  refine ⟨_, _, w, hw, by rw [hw, layB_top], ?_⟩
  have hp : (0 : Int) < 256 ^ w := Int.pow_pos (by decide)
  have h1 : 1 ≤ n / 256 ^ w := by rw [Int.le_ediv_iff_mul_le hp]; omega
  have h2 : n / 256 ^ w < 256 := Int.ediv_lt_of_lt_mul hp (by omega)
  omega
theorem getSmall_put {n : Int} (hn : 0 ≤ n ∧ n ≤ 18446744073709551615) (b : List Int) : getSmall (putSmall n ++ b) = (n, (((putSmall n).length : Nat) : Int), 0) := by
  have hw := widthN_le 8 n
  have hl : (layB n (widthN 8 n)).length = widthN 8 n := layB_len _ _
  have h0 : (putSmall n ++ b).getD 0 0 = ((widthN 8 n : Nat) : Int) := by unfold putSmall; simp
  have hlen : (putSmall n).length = widthN 8 n + 1 := by unfold putSmall; simp [hl]
  have h1 : ¬ (0 < ((widthN 8 n : Nat) : Int) ∧ (putSmall n ++ b).getD 1 0 = 0) := by
    intro ⟨p, q⟩
    have : 0 < n := by
      rcases Int.lt_or_le 0 n with h | h
      · exact h
      · rw [show n = 0 by omega, widthN_zero] at p; omega
    obtain ⟨c, r, w, e1, e2, e3⟩ := lay_head this hn.2
    unfold putSmall at q
    rw [e2] at q
    simp at q
    exact e3 q
  unfold getSmall
  rw [h0, if_neg (by rw [List.length_append]; omega), if_neg (by omega), if_neg (by rw [List.length_append]; omega), if_neg h1]
  rw [show (((widthN 8 n : Nat) : Int) + 1).toNat = (putSmall n).length by omega, List.take_left' rfl]
  have e : (putSmall n).drop 1 = layB n (widthN 8 n) := rfl
  rw [e, numB_lay _ _ hn.1 (widthN_hi 8 n hn.1 (by rw [p8]; omega)) hn.2, hlen]
  rfl
end Go.Proofs.YtoedpnniaikfbaaGreat

set_option linter.unusedVariables false
set_option linter.unusedSimpArgs false
namespace Go.Proofs.YtoedpnniaikfbaaGreat
open Go.Eng
theorem putText_len (s : List UInt8) : (putText s).length ≤ 2 * s.length + 2 := by
  have := escI_len (bytesOfStr s)
  have e : (bytesOfStr s).length = s.length := by simp [bytesOfStr]
  simp only [putText, putB, List.length_append, List.length_cons, List.length_nil]; omega
theorem putSmall_len (n : Int) : 1 ≤ (putSmall n).length ∧ (putSmall n).length ≤ 9 := by
  have hw := widthN_le 8 n
  have hl : (layB n (widthN 8 n)).length = widthN 8 n := layB_len _ _
  simp only [putSmall, List.length_cons]; omega
theorem bytes_str : ∀ (xs : List Int), isB xs → bytesOfStr (strOfBytes xs) = xs
  | [], _ => rfl
  | x :: r, h => by
    have hx := h x (by simp)
    have ih := bytes_str r (fun z hz => h z (by simp [hz]))
    show ((UInt8.ofNat x.toNat).toNat : Int) :: bytesOfStr (strOfBytes r) = _
    rw [ih, UInt8.toNat_ofNat']
    congr 1; omega
theorem str_inj {xs ys : List Int} (hx : isB xs) (hy : isB ys) (h : strOfBytes xs = strOfBytes ys) : xs = ys := by
  rw [← bytes_str xs hx, h, bytes_str ys hy]
end Go.Proofs.YtoedpnniaikfbaaGreat

set_option linter.unusedVariables false
set_option linter.unusedSimpArgs false
namespace Go.Proofs.YtoedpnniaikfbaaGreat
open Go.Eng
abbrev VerT : Ty := .pair (.int .i64) (.pair (.int .i64) (.pair .bool .str))
abbrev Ver := Int × Int × Bool × List UInt8
abbrev Stk := List UInt8 × List Ver
def pend (me : Int) (v : Ver) : Bool := decide (v.2.1 = 0 ∧ v.1 = me ∧ 0 ≤ me)
end Go.Proofs.YtoedpnniaikfbaaGreat

set_option linter.unusedVariables false
set_option linter.unusedSimpArgs false
namespace Go.Proofs.YtoedpnniaikfbaaGreat
open Go.Eng
def roomP (me : Int) (v : Ver) : Bool := (v.2.1 == 0) && (v.1 == me)
def room (s : Stk) (me : Int) : Bool := decide (s.2.length < 8) || s.2.any (roomP me)
def okTs (at' : Int) (v : Ver) : Bool := decide (1 ≤ v.2.1 ∧ v.2.1 ≤ at')
end Go.Proofs.YtoedpnniaikfbaaGreat

set_option linter.unusedVariables false
set_option linter.unusedSimpArgs false
namespace Go.Proofs.YtoedpnniaikfbaaGreat
open Go.Eng
abbrev ver0 : Ver := (0, 0, false, [])
def inB (n : Int) : Bool := decide (0 ≤ n ∧ n ≤ 1099511627776)
def sIn : PSpec := ⟨[.d (.int .i64)], [⟨false, [.d .bool]⟩], fun _ => True, fun x => ((inB x.1, ()), ())⟩
def ordered1 (v : Ver) : Bool := v.2.1 == 0
def firstZ (xs : List Ver) : Nat := if idxF ordered1 xs 0 < 0 then xs.length else (idxF ordered1 xs 0).toNat
def OrdA (xs : List Ver) (n : Nat) : Prop := ∀ j, j < n → 1 ≤ j → (xs.getD (j - 1) ver0).2.1 ≤ (xs.getD j ver0).2.1
def OrdB : List Ver → List Int → Prop
  | [], _ => True
  | v :: r, l => v.2.1 = 0 ∧ v.1 ∉ l ∧ OrdB r (v.1 :: l)
instance : ∀ (xs : List Ver) (l : List Int), Decidable (OrdB xs l)
  | [], _ => .isTrue trivial
  | v :: r, l => by
    have := instDecidableOrdB r (v.1 :: l)
    unfold OrdB
    exact inferInstance
instance (xs : List Ver) (n : Nat) : Decidable (OrdA xs n) := by unfold OrdA; exact inferInstance
def ordered (xs : List Ver) : Bool := decide (OrdA xs (firstZ xs) ∧ OrdB (xs.drop (firstZ xs)) [])
end Go.Proofs.YtoedpnniaikfbaaGreat

set_option linter.unusedVariables false
set_option linter.unusedSimpArgs false
namespace Go.Proofs.YtoedpnniaikfbaaGreat
open Go.Eng
def write (s : Stk) (v : Ver) : Stk :=
  if 0 ≤ idxF (roomP v.1) s.2 0 then (s.1, s.2.set (idxF (roomP v.1) s.2 0).toNat (v.1, 0, v.2.2)) else if s.2.length < 8 then (s.1, s.2 ++ [(v.1, 0, v.2.2)]) else s
end Go.Proofs.YtoedpnniaikfbaaGreat

set_option linter.unusedVariables false
set_option linter.unusedSimpArgs false
set_option maxRecDepth 8000
namespace Go.Proofs.YtoedpnniaikfbaaGreat
open Go.Eng
abbrev RdT : Ty := .pair BT (.int .i64)
def sLeft : MSpec := ⟨[.m RP], [⟨false, [.d (.int .i64)]⟩], fun _ => True, fun x => (((List.length (α := Int) x.1.1 : Nat), ()), x.1, ())⟩
theorem fLeft : FnOk Tryz.prog 33 := ⟨_, Tryz.func33, by decide, rfl⟩
theorem pLeft : SpecOk Tryz.prog 33 sLeft.spec := by
  refine mOk (T := tab) (S := (spOf [])) (keep := k33m) tabOk spNil (by kernel_rfl) Tryz.func33 (by kernel_rfl) (by kernel_rfl) (by decide) fun xs hg hp => ?_
  obtain ⟨⟨b, e, ⟨⟩⟩, ⟨⟩⟩ := xs
  change List Int at b
  change Int at e
  show vfunM tab _ k33m Tryz.f33 [.ptr 0 0] [(0, .box [.sl (.int .u8) b, .i .i64 e])] _
  refine Ev.out ?_
  repeat' (first | ((with_reducible refine Ev.mk ?_); conv => whnf) | (with_reducible refine And.intro ?_ ?_) | (intro h))
  all_goals exact Leaf.mk rfl
def sBEqual : PSpec := ⟨[.d BT, .d BT], [⟨false, [.d .bool]⟩], fun _ => True, fun x => ((strOfBytes x.1 == strOfBytes x.2.1, ()), ())⟩
theorem fBEqual : FnOk Tryz.prog 35 := ⟨_, Tryz.func35, by decide, rfl⟩
theorem pBEqual : PSound Tryz.prog 35 sBEqual := by
  refine psound (T := tab) (S := (spOf [])) (keep := k35) (by kernel_rfl) tabOk spNil (by kernel_rfl) Tryz.func35 (by kernel_rfl) (by decide) fun xs hg hp => ?_
  obtain ⟨xs, ys, ⟨⟩⟩ := xs
  show vfun tab _ k35 Tryz.f35 [.sl (.int .u8) xs, .sl (.int .u8) ys] [] _
  refine Ev.out ?_
  repeat' (first | ((with_reducible refine Ev.mk ?_); conv => whnf) | (with_reducible refine And.intro ?_ ?_) | (intro h))
  all_goals exact Leaf.mk rfl
def sFlag : PSpec := ⟨[.d .bool], [⟨false, [.d (.int .u8)]⟩], fun _ => True, fun x => ((if x.1 = true then 1 else 0, ()), ())⟩
theorem putQ {α : Type} {u v : α × List Int × Int} (h : u = v) : (some ((u.2, ()), (u.1, ()), ()) : Option (((List Int × Int) × Unit) × (α × Unit) × Unit)) = some ((v.2, ()), (v.1, ()), ()) := by rw [h]
def sRSmall : PSpec := ⟨[.d RdT], [⟨true, [.d RdT]⟩, ⟨false, [.d (.int .i64)]⟩], fun _ => True, fun x => (((rdSmall x.1.1 x.1.2).2, ()), ((rdSmall x.1.1 x.1.2).1, ()), ())⟩
theorem fRSmall : FnOk Tryz.prog 36 := ⟨_, Tryz.func36, by decide, rfl⟩
theorem pRSmall : PSound Tryz.prog 36 sRSmall := by
  refine psound (T := tab) (S := (spOf [(75, sGetSmallR.spec (lsOf []))])) (keep := k36) (by kernel_rfl) tabOk (spCons (pOk pGetSmallR fGetSmallR (by decide) lsNil) spNil) (by kernel_rfl) Tryz.func36 (by kernel_rfl) (by decide) fun xs hg hp => ?_
  obtain ⟨⟨b, e⟩, ⟨⟩⟩ := xs
  change List Int at b
  change Int at e
  obtain ⟨⟨⟨hl, hx⟩, -⟩, -⟩ := hg
  clear hl hp
  change ∀ x ∈ b, Eng.Good (.int .u8) x at hx
  have hb0 := getSmall_bd hx
  clear hx
  show vfun tab _ k36 Tryz.f36 [.agg [.sl (.int .u8) b, .i .i64 e]] [] _
  refine Ev.out ?_
  repeat' (first | ((with_reducible refine Ev.mk ?_); conv => whnf) | (with_reducible refine And.intro ?_ ?_) | (intro h))
  all_goals (try simp only [decide_eq_true_eq, decide_eq_false_iff_not, beq_iff_eq, bne_iff_ne, beq_eq_false_iff_ne, bne_eq_false_iff_eq, Int.toNat_natCast, ge_iff_le, gt_iff_lt, Bool.not_eq_true', Bool.not_eq_false', Int.not_lt, Int.not_le, ne_eq] at *)
  all_goals (try dsimp only [Ty.den, Ty.dflt, BT, sGetSmallR, sGetSmall] at *)
  all_goals (try simp only [eq4, ne4, eq3, ne3, eq2, ne2, Prod.eta, List.length_cons, List.length_nil, List.length_append, Nat.zero_add] at *)
  all_goals (try simp (disch := omega) only [wrap64] at *)
  all_goals try first | exact leafDraw (by kernel_rfl) | exact Leaf.mk trivial | (refine Leaf.mk ?_; omega) | (refine Leaf.mk ?_; unfold maxLen; omega)
  · refine Leaf.mk (putQ (u := (0, b, e)) (v := rdSmall b e) ?_)
    unfold rdSmall
    repeat first | rw [if_pos (by assumption)] | rw [if_neg (Int.not_lt.2 (by assumption))] | rw [if_neg (Classical.not_not.2 (by assumption))]
  · skip
    refine Leaf.mk (putQ (u := (0, b, (getSmall b).2.2)) (v := rdSmall b e) ?_)
    unfold rdSmall
    repeat first | rw [if_pos (by assumption)] | rw [if_neg (Int.not_lt.2 (by assumption))] | rw [if_neg (Classical.not_not.2 (by assumption))]
  · skip
    refine Leaf.mk (putQ (u := (0, b, 9)) (v := rdSmall b e) ?_)
    unfold rdSmall
    repeat first | rw [if_pos (by assumption)] | rw [if_neg (Int.not_lt.2 (by assumption))] | rw [if_neg (Classical.not_not.2 (by assumption))]
  · skip
    rw [List.take_length]
    refine Leaf.mk (putQ (u := ((getSmall b).1, b.drop (getSmall b).2.1.toNat, 0)) (v := rdSmall b e) ?_)
    unfold rdSmall
    repeat first | rw [if_pos (by assumption)] | rw [if_neg (Int.not_lt.2 (by assumption))] | rw [if_neg (Classical.not_not.2 (by assumption))]
def sRText : PSpec := ⟨[.d RdT, .d (.int .i64)], [⟨true, [.d RdT]⟩, ⟨false, [.d .str]⟩], fun x => List.length (α := Int) x.1.1 ≤ 100000, fun x => (((rdText x.1.1 x.1.2 x.2.1).2, ()), ((rdText x.1.1 x.1.2 x.2.1).1, ()), ())⟩
theorem fRText : FnOk Tryz.prog 37 := ⟨_, Tryz.func37, by decide, rfl⟩
theorem pRText : PSound Tryz.prog 37 sRText := by
  refine psound (T := tab) (S := (spOf [(76, sGetTextR.spec (lsOf []))])) (keep := k37) (by kernel_rfl) tabOk (spCons (pOk pGetTextR fGetTextR (by decide) lsNil) spNil) (by kernel_rfl) Tryz.func37 (by kernel_rfl) (by decide) fun xs hg hp => ?_
  obtain ⟨⟨b, e⟩, most, ⟨⟩⟩ := xs
  change List Int at b
  change Int at e
  change Int at most
  change b.length ≤ 100000 at hp
  show vfun tab _ k37 Tryz.f37 [.agg [.sl (.int .u8) b, .i .i64 e], .i .i64 most] [] _
  refine Ev.out ?_
  repeat' (first | ((with_reducible refine Ev.mk ?_); conv => whnf) | (with_reducible refine And.intro ?_ ?_) | (intro h))
  all_goals (try simp only [decide_eq_true_eq, decide_eq_false_iff_not, beq_iff_eq, bne_iff_ne, beq_eq_false_iff_ne, bne_eq_false_iff_eq, Int.toNat_natCast, ge_iff_le, gt_iff_lt, Bool.not_eq_true', Bool.not_eq_false', Int.not_lt, Int.not_le, ne_eq] at *)
  all_goals (try dsimp only [Ty.den, Ty.dflt, BT, sGetTextR, sGetText] at *)
  all_goals (try simp only [eq4, ne4, eq3, ne3, eq2, ne2, Prod.eta, List.length_cons, List.length_nil, List.length_append, Nat.zero_add] at *)
  all_goals (try simp (disch := omega) only [wrap64] at *)
  all_goals have hb := getText_bd b
  all_goals try first | exact leafDraw (by kernel_rfl) | exact Leaf.mk trivial | (refine Leaf.mk ?_; omega) | (refine Leaf.mk ?_; unfold maxLen; omega)
  · refine Leaf.mk (putQ (u := ([], b, e)) (v := rdText b e most) ?_)
    unfold rdText
    repeat first | rw [if_pos (by assumption)] | rw [if_neg (Int.not_lt.2 (by assumption))] | rw [if_neg (Classical.not_not.2 (by assumption))]
  · skip
    refine Leaf.mk (putQ (u := ([], b, (getText b).2.2)) (v := rdText b e most) ?_)
    unfold rdText
    repeat first | rw [if_pos (by assumption)] | rw [if_neg (Int.not_lt.2 (by assumption))] | rw [if_neg (Classical.not_not.2 (by assumption))]
  · skip
    refine Leaf.mk (putQ (u := ([], b, 5)) (v := rdText b e most) ?_)
    unfold rdText
    repeat first | rw [if_pos (by assumption)] | rw [if_neg (Int.not_lt.2 (by assumption))] | rw [if_neg (Classical.not_not.2 (by assumption))]
  · skip
    rw [List.take_length]
    refine Leaf.mk (putQ (u := ((getText b).1, b.drop (getText b).2.1.toNat, 0)) (v := rdText b e most) ?_)
    unfold rdText
    repeat first | rw [if_pos (by assumption)] | rw [if_neg (Int.not_lt.2 (by assumption))] | rw [if_neg (Classical.not_not.2 (by assumption))]
end Go.Proofs.YtoedpnniaikfbaaGreat

set_option linter.unusedVariables false
set_option linter.unusedSimpArgs false
set_option maxRecDepth 8000
namespace Go.Proofs.YtoedpnniaikfbaaGreat
open Go.Eng
theorem rdSmall_put {n : Int} (h0 : 0 ≤ n) (h1 : n ≤ 1099511627776) (r : List Int) : rdSmall (putSmall n ++ r) 0 = (n, r, 0) := by
  have hg := getSmall_put (n := n) (by omega) r
  rw [rdSmall, if_neg (by simp), hg]
  dsimp only
  rw [if_neg (by simp), if_neg (by omega), Int.toNat_natCast, List.drop_left']
  rfl
theorem rdText_put {k : List UInt8} {m : Int} (h0 : (k.length : Int) ≤ m) (r : List Int) : rdText (putText k ++ r) 0 m = (k, r, 0) := by
  have hg := getText_put k r
  rw [rdText, if_neg (by simp), hg]
  dsimp only
  rw [if_neg (by simp), if_neg (by split <;> omega), Int.toNat_natCast, List.drop_left']
  rfl
end Go.Proofs.YtoedpnniaikfbaaGreat

set_option linter.unusedVariables false
set_option linter.unusedSimpArgs false
set_option maxRecDepth 8000
set_option maxHeartbeats 4000000
namespace Go.Proofs.YtoedpnniaikfbaaGreat
open Go.Eng
theorem wrapu {n : Int} (h : 0 ≤ n ∧ n ≤ 1099511627776) : IntKind.u64.wrap n = n := by rw [wrapU64]; omega
theorem retB {u v : List Int × Int} (h : u = v) : (some ((u.1, ()), (u.2, ()), ()) : Option ((List Int × Unit) × (Int × Unit) × Unit)) = some ((v.1, ()), (v.2, ()), ()) := by rw [h]
end Go.Proofs.YtoedpnniaikfbaaGreat

set_option linter.unusedVariables false
set_option linter.unusedSimpArgs false
namespace Go.Proofs.YtoedpnniaikfbaaGreat
open Go.Eng
def rel (me at' : Int) (v : Ver) : Bool := pend me v || okTs at' v
end Go.Proofs.YtoedpnniaikfbaaGreat

set_option linter.unusedVariables false
set_option linter.unusedSimpArgs false
set_option maxRecDepth 8000
set_option maxHeartbeats 4000000
namespace Go.Proofs.YtoedpnniaikfbaaGreat
open Go.Eng
theorem rdSmall_suf (b : List Int) (e : Int) : (rdSmall b e).2.1 <:+ b := by
  unfold rdSmall
  repeat' split
  all_goals first | exact List.suffix_refl _ | exact List.drop_suffix _ _
theorem rdText_suf (b : List Int) (e m : Int) : (rdText b e m).2.1 <:+ b := by
  unfold rdText
  generalize (if 0 < m then m else 0) = mm
  repeat' split
  all_goals first | exact List.suffix_refl _ | exact List.drop_suffix _ _
theorem suf_len {a b : List Int} (h : a <:+ b) : a.length ≤ b.length := h.length_le
theorem suf_cut {R b : List Int} (h : R <:+ b) : (List.take b.length b).drop ((b.length : Int) - (R.length : Int)).toNat = R := by
  have := h.length_le
  rw [List.take_length, show ((b.length : Int) - (R.length : Int)).toNat = b.length - R.length by omega]
  exact (List.suffix_iff_eq_drop.1 h).symm
theorem str_eq {xs ys : List Int} (hx : isB xs) (hy : isB ys) : (strOfBytes xs == strOfBytes ys) = decide (xs = ys) := by
  by_cases h : xs = ys
  · subst h; simp
  · rw [decide_eq_false h, beq_eq_false_iff_ne]
    exact fun hc => h (str_inj hx hy hc)
end Go.Proofs.YtoedpnniaikfbaaGreat

set_option linter.unusedVariables false
set_option linter.unusedSimpArgs false
set_option maxRecDepth 8000
set_option maxHeartbeats 4000000
namespace Go.Proofs.YtoedpnniaikfbaaGreat
open Go.Eng
abbrev MsgT : Ty := .pair (.int .u8) (.pair .str (.pair (.int .i64) (.pair (.int .i64) (.pair .bool .str))))
abbrev Msg := Int × List UInt8 × Int × Int × Bool × List UInt8
abbrev msg0 : Msg := (0, [], 0, 0, false, [])
abbrev FldT : Ty := .pair .bool (.pair .bool .bool)
def ofK (k : Int) : Bool × Bool × Bool := (decide (k = 0), decide (k = 0 ∨ k = 1 ∨ k = 2), decide (k = 1 ∨ k = 3))
def sOf : PSpec := ⟨[.d (.int .u8)], [⟨true, [.d FldT]⟩], fun _ => True, fun x => ((ofK x.1, ()), ())⟩
theorem fOf : FnOk Tryz.prog 73 := ⟨_, Tryz.func73, by decide, rfl⟩
theorem pOf : PSound Tryz.prog 73 sOf := by
  refine psound (T := tab) (S := (spOf [])) (keep := k73) (by kernel_rfl) tabOk spNil (by kernel_rfl) Tryz.func73 (by kernel_rfl) (by decide) fun xs hg hp => ?_
  obtain ⟨k, ⟨⟩⟩ := xs
  change Int at k
  show vfun tab _ k73 Tryz.f73 [.i .u8 k] [] _
  refine Ev.out ?_
  repeat' (first | ((with_reducible refine Ev.mk ?_); conv => whnf) | (with_reducible refine And.intro ?_ ?_) | (intro h))
  all_goals (try simp only [decide_eq_true_eq, decide_eq_false_iff_not, beq_iff_eq, bne_iff_ne, beq_eq_false_iff_ne, bne_eq_false_iff_eq, Int.toNat_natCast, ge_iff_le, gt_iff_lt, Bool.not_eq_true', Bool.not_eq_false', Int.not_lt, Int.not_le, ne_eq] at *)
  all_goals (try dsimp only [Ty.den, Ty.dflt, MsgT] at *)
  all_goals (try simp only [eq4, ne4, eq3, ne3, eq2, ne2, Prod.eta, List.length_cons, List.length_nil, List.length_append, Nat.zero_add] at *)
  all_goals (try simp (disch := omega) only [wrap64] at *)
  all_goals
    refine Leaf.mk (ret1 (show _ = ofK k from ?_))
    unfold ofK
    simp_all
def sMIn : PSpec := sIn
theorem fMIn : FnOk Tryz.prog 77 := ⟨_, Tryz.func77, by decide, rfl⟩
theorem pMIn : PSound Tryz.prog 77 sMIn := by
  refine psound (T := tab) (S := (spOf [])) (keep := k77) (by kernel_rfl) tabOk spNil (by kernel_rfl) Tryz.func77 (by kernel_rfl) (by decide) fun xs hg hp => ?_
  obtain ⟨n, ⟨⟩⟩ := xs
  change Int at n
  show vfun tab _ k77 Tryz.f77 [.i .i64 n] [] _
  refine Ev.out ?_
  repeat' (first | ((with_reducible refine Ev.mk ?_); conv => whnf) | (with_reducible refine And.intro ?_ ?_) | (intro h))
  all_goals (try simp only [decide_eq_true_eq, decide_eq_false_iff_not, beq_iff_eq, bne_iff_ne, beq_eq_false_iff_ne, bne_eq_false_iff_eq, Int.toNat_natCast, ge_iff_le, gt_iff_lt, Bool.not_eq_true', Bool.not_eq_false', Int.not_lt, Int.not_le, ne_eq] at *)
  all_goals (try dsimp only [Ty.den, Ty.dflt, VerT] at *)
  all_goals (try simp only [eq4, ne4, eq3, ne3, eq2, ne2, Prod.eta, List.length_cons, List.length_nil, List.length_append, Nat.zero_add] at *)
  all_goals (try simp (disch := omega) only [wrap64] at *)
  all_goals
    refine Leaf.mk (ret1 (show _ = inB n from ?_))
    simp only [inB]
    first
    | (rw [decide_eq_false (p := 0 ≤ n ∧ n ≤ 1099511627776) (by omega)]; done)
    | (congr 1; simp only [eq_iff_iff]; omega)
def mForm (m : Msg) : Prop := (m.1 = 0 ∨ (m.2.2.2.2.1 = false ∧ m.2.1.length = 0 ∧ m.2.2.2.2.2.length = 0)) ∧ (m.1 = 3 → m.2.2.1 = 0) ∧ (m.1 = 0 ∨ m.1 = 2 → m.2.2.2.1 = 0) ∧ (m.2.2.2.2.1 = false ∨ m.2.2.2.2.2.length = 0)
instance (m : Msg) : Decidable (mForm m) := by unfold mForm; infer_instance
def mcheck (m : Msg) : Int := if 3 < m.1 then 13 else if ¬ mForm m then 4 else if ¬ (inB m.2.2.1 = true ∧ inB m.2.2.2.1 = true) ∨ (m.1 = 1 ∧ m.2.2.2.1 = 0) then 9 else if 16 < m.2.1.length ∨ 24 < m.2.2.2.2.2.length then 5 else 0
def sMCheck : PSpec := ⟨[.d MsgT], [⟨false, [.d (.int .i64)]⟩], fun _ => True, fun x => ((mcheck x.1, ()), ())⟩
theorem fMCheck : FnOk Tryz.prog 47 := ⟨_, Tryz.func47, by decide, rfl⟩
theorem pMCheck : PSound Tryz.prog 47 sMCheck := by
  refine psound (T := tab) (S := (spOf [(73, sOf.spec (lsOf [])), (77, sMIn.spec (lsOf []))])) (keep := k47) (by kernel_rfl) tabOk (spCons (pOk pOf fOf (by decide) lsNil) (spCons (pOk pMIn fMIn (by decide) lsNil) spNil)) (by kernel_rfl) Tryz.func47 (by kernel_rfl) (by decide) fun xs hg hp => ?_
  obtain ⟨⟨kind, key, txn, ts, gone, val⟩, ⟨⟩⟩ := xs
  obtain ⟨⟨hk, hkl, htx, hts, -, hvl⟩, -⟩ := hg
  change List UInt8 at key
  change List UInt8 at val
  change Int at kind txn ts
  change Bool at gone
  change key.length ≤ _ at hkl
  change val.length ≤ _ at hvl
  have hkl := len63 hkl
  have hvl := len63 hvl
  have hk := bdu8 hk
  show vfun tab _ k47 Tryz.f47 [.agg [.i .u8 kind, .s key, .i .i64 txn, .i .i64 ts, .b gone, .s val]] [] _
  refine Ev.out ?_
  repeat' (first | ((with_reducible refine Ev.mk ?_); conv => whnf) | (with_reducible refine And.intro ?_ ?_) | (intro h))
  all_goals (try simp only [decide_eq_true_eq, decide_eq_false_iff_not, beq_iff_eq, bne_iff_ne, beq_eq_false_iff_ne, bne_eq_false_iff_eq, Int.toNat_natCast, ge_iff_le, gt_iff_lt, Bool.not_eq_true', Bool.not_eq_false', Int.not_lt, Int.not_le, ne_eq] at *)
  all_goals (try dsimp only [Ty.den, Ty.dflt, MsgT, sOf, ofK, sMIn, sIn] at *)
  all_goals (try simp only [eq4, ne4, eq3, ne3, eq2, ne2, Prod.eta, List.length_cons, List.length_nil, List.length_append, Nat.zero_add] at *)
  all_goals (try simp (disch := omega) only [wrap64] at *)
  all_goals try first | exact leafDraw (by kernel_rfl) | exact Leaf.mk trivial | (refine Leaf.mk ?_; omega) | (refine Leaf.mk ?_; unfold maxLen; omega)
  all_goals try simp only [← List.length_eq_zero_iff] at *
  all_goals try simp only [inB, decide_eq_true_eq, decide_eq_false_iff_not] at *
  all_goals
    refine Leaf.mk (ret1 (show (_ : Int) = mcheck (kind, key, txn, ts, gone, val) from ?_))
    simp only [mcheck, mForm, inB, decide_eq_true_eq]
    cases gone
  all_goals try simp only [reduceCtorEq, false_and, true_and, and_true, or_true, true_or, false_or, or_false, not_true_eq_false, not_false_eq_true] at *
  all_goals
    repeat' split
  all_goals first | rfl | (exfalso; omega)
def sMCheckR : PSpec := sMCheck
def onlyF (m : Msg) : Msg := if m.1 = 0 then (m.1, m.2.1, m.2.2.1, 0, m.2.2.2.2.1, if m.2.2.2.2.1 = true then [] else m.2.2.2.2.2) else if m.1 = 1 then (m.1, [], m.2.2.1, m.2.2.2.1, false, []) else if m.1 = 2 then (m.1, [], m.2.2.1, 0, false, []) else if m.1 = 3 then (m.1, [], 0, m.2.2.2.1, false, []) else (m.1, [], 0, 0, false, [])
def sOnly : PSpec := ⟨[.d MsgT], [⟨true, [.d MsgT]⟩], fun _ => True, fun x => ((onlyF x.1, ()), ())⟩
theorem fOnly : FnOk Tryz.prog 91 := ⟨_, Tryz.func91, by decide, rfl⟩
theorem pOnly : PSound Tryz.prog 91 sOnly := by
  refine psound (T := tab) (S := (spOf [])) (keep := k91) (by kernel_rfl) tabOk spNil (by kernel_rfl) Tryz.func91 (by kernel_rfl) (by decide) fun xs hg hp => ?_
  obtain ⟨⟨kind, key, txn, ts, gone, val⟩, ⟨⟩⟩ := xs
  obtain ⟨⟨hk, hkl, htx, hts, -, hvl⟩, -⟩ := hg
  change List UInt8 at key
  change List UInt8 at val
  change Int at kind txn ts
  change Bool at gone
  change key.length ≤ _ at hkl
  change val.length ≤ _ at hvl
  have hkl := len63 hkl
  have hvl := len63 hvl
  have hk := bdu8 hk
  show vfun tab _ k91 Tryz.f91 [.agg [.i .u8 kind, .s key, .i .i64 txn, .i .i64 ts, .b gone, .s val]] [] _
  refine Ev.out ?_
  repeat' (first | ((with_reducible refine Ev.mk ?_); conv => whnf) | (with_reducible refine And.intro ?_ ?_) | (intro h))
  all_goals (try simp only [decide_eq_true_eq, decide_eq_false_iff_not, beq_iff_eq, bne_iff_ne, beq_eq_false_iff_ne, bne_eq_false_iff_eq, Int.toNat_natCast, ge_iff_le, gt_iff_lt, Bool.not_eq_true', Bool.not_eq_false', Int.not_lt, Int.not_le, ne_eq] at *)
  all_goals (try dsimp only [Ty.den, Ty.dflt, MsgT] at *)
  all_goals (try simp only [eq4, ne4, eq3, ne3, eq2, ne2, Prod.eta, List.length_cons, List.length_nil, List.length_append, Nat.zero_add] at *)
  all_goals (try simp (disch := omega) only [wrap64] at *)
  all_goals try first | exact leafDraw (by kernel_rfl) | exact Leaf.mk trivial | (refine Leaf.mk ?_; omega) | (refine Leaf.mk ?_; unfold maxLen; omega)
  all_goals
    refine Leaf.mk (ret1 (show (_ : Msg) = onlyF (kind, key, txn, ts, gone, val) from ?_))
    unfold onlyF
    simp_all
section
variable {α β γ δ ε ζ : Type} [BEq α] [LawfulBEq α] [BEq β] [LawfulBEq β] [BEq γ] [LawfulBEq γ] [BEq δ] [LawfulBEq δ] [BEq ε] [LawfulBEq ε] [BEq ζ] [LawfulBEq ζ]
theorem eq6 {x y : α × β × γ × δ × ε × ζ} : (x.1 == y.1 && (x.2.1 == y.2.1 && (x.2.2.1 == y.2.2.1 && (x.2.2.2.1 == y.2.2.2.1 && (x.2.2.2.2.1 == y.2.2.2.2.1 && x.2.2.2.2.2 == y.2.2.2.2.2))))) = true ↔ x = y := by
  obtain ⟨a, b, e, g, i, j⟩ := x; obtain ⟨c, d, f, k, l, m⟩ := y
  simp
theorem ne6 {x y : α × β × γ × δ × ε × ζ} : (x.1 == y.1 && (x.2.1 == y.2.1 && (x.2.2.1 == y.2.2.1 && (x.2.2.2.1 == y.2.2.2.1 && (x.2.2.2.2.1 == y.2.2.2.2.1 && x.2.2.2.2.2 == y.2.2.2.2.2))))) = false ↔ ¬ x = y := by
  rw [← eq6, Bool.not_eq_true]
end
theorem only_iff {m : Msg} (h0 : 0 ≤ m.1) (h3 : m.1 ≤ 3) : m = onlyF m ↔ mForm m := by
  obtain ⟨kind, key, txn, ts, gone, val⟩ := m
  dsimp only at h0 h3
  unfold onlyF mForm
  dsimp only
  simp only [List.length_eq_zero_iff]
  rcases (by omega : kind = 0 ∨ kind = 1 ∨ kind = 2 ∨ kind = 3) with rfl | rfl | rfl | rfl <;> cases gone <;> simp [Prod.ext_iff] <;> grind
theorem fMCheckR : FnOk Tryz.prog 63 := ⟨_, Tryz.func63, by decide, rfl⟩
theorem pMCheckR : PSound Tryz.prog 63 sMCheckR := by
  refine psound (T := tab) (S := (spOf [(91, sOnly.spec (lsOf []))])) (keep := k63) (by kernel_rfl) tabOk (spCons (pOk pOnly fOnly (by decide) lsNil) spNil) (by kernel_rfl) Tryz.func63 (by kernel_rfl) (by decide) fun xs hg hp => ?_
  obtain ⟨⟨kind, key, txn, ts, gone, val⟩, ⟨⟩⟩ := xs
  obtain ⟨⟨hk, hkl, htx, hts, -, hvl⟩, -⟩ := hg
  change List UInt8 at key
  change List UInt8 at val
  change Int at kind txn ts
  change Bool at gone
  change key.length ≤ _ at hkl
  change val.length ≤ _ at hvl
  have hkl := len63 hkl
  have hvl := len63 hvl
  have hk := bdu8 hk
  show vfun tab _ k63 Tryz.f63 [.agg [.i .u8 kind, .s key, .i .i64 txn, .i .i64 ts, .b gone, .s val]] [] _
  refine Ev.out ?_
  repeat' (first | ((with_reducible refine Ev.mk ?_); conv => whnf) | (with_reducible refine And.intro ?_ ?_) | (intro h))
  all_goals (try simp only [decide_eq_true_eq, decide_eq_false_iff_not, beq_iff_eq, bne_iff_ne, beq_eq_false_iff_ne, bne_eq_false_iff_eq, Int.toNat_natCast, ge_iff_le, gt_iff_lt, Bool.not_eq_true', Bool.not_eq_false', Int.not_lt, Int.not_le, ne_eq] at *)
  all_goals (try dsimp only [Ty.den, Ty.dflt, MsgT, sOnly] at *)
  all_goals (try simp only [eq4, ne4, eq3, ne3, eq2, ne2, Prod.eta, List.length_cons, List.length_nil, List.length_append, Nat.zero_add] at *)
  all_goals (try simp (disch := omega) only [wrap64] at *)
  all_goals try first | exact leafDraw (by kernel_rfl) | exact Leaf.mk trivial | (refine Leaf.mk ?_; omega) | (refine Leaf.mk ?_; unfold maxLen; omega)
  all_goals try (have h9 := (only_iff (m := (kind, key, txn, ts, gone, val)) hk.1 (by dsimp only; omega)).1 (eq6.1 ‹(_ && _) = true›); simp only [mForm] at h9)
  all_goals try (have h9 := (not_congr (only_iff (m := (kind, key, txn, ts, gone, val)) hk.1 (by dsimp only; omega))).1 (ne6.1 ‹(_ && _) = false›); simp only [mForm] at h9)
  all_goals try simp only [inB, decide_eq_true_eq, decide_eq_false_iff_not] at *
  all_goals
    refine Leaf.mk (ret1 (show (_ : Int) = mcheck (kind, key, txn, ts, gone, val) from ?_))
    simp only [mcheck, mForm, inB, decide_eq_true_eq]
    cases gone
  all_goals try simp only [reduceCtorEq, false_and, true_and, and_true, or_true, true_or, false_or, or_false, not_true_eq_false, not_false_eq_true] at *
  all_goals
    repeat' split
  all_goals first | rfl | (exfalso; omega)
end Go.Proofs.YtoedpnniaikfbaaGreat

set_option linter.unusedVariables false
set_option linter.unusedSimpArgs false
set_option maxRecDepth 8000
set_option maxHeartbeats 4000000
namespace Go.Proofs.YtoedpnniaikfbaaGreat
open Go.Eng
def wide (m : Msg) : Bool := decide (1 ≤ m.1 ∧ m.1 ≤ 3)
def sWide : PSpec := ⟨[.d MsgT], [⟨false, [.d .bool]⟩], fun _ => True, fun x => ((wide x.1, ()), ())⟩
theorem fWide : FnOk Tryz.prog 48 := ⟨_, Tryz.func48, by decide, rfl⟩
theorem pWide : PSound Tryz.prog 48 sWide := by
  refine psound (T := tab) (S := (spOf [])) (keep := k48) (by kernel_rfl) tabOk spNil (by kernel_rfl) Tryz.func48 (by kernel_rfl) (by decide) fun xs hg hp => ?_
  obtain ⟨⟨kind, key, txn, ts, gone, val⟩, ⟨⟩⟩ := xs
  obtain ⟨⟨hk, -⟩, -⟩ := hg
  change List UInt8 at key
  change List UInt8 at val
  change Int at kind txn ts
  change Bool at gone
  have hk := bdu8 hk
  show vfun tab _ k48 Tryz.f48 [.agg [.i .u8 kind, .s key, .i .i64 txn, .i .i64 ts, .b gone, .s val]] [] _
  refine Ev.out ?_
  repeat' (first | ((with_reducible refine Ev.mk ?_); conv => whnf) | (with_reducible refine And.intro ?_ ?_) | (intro h))
  all_goals (try simp only [decide_eq_true_eq, decide_eq_false_iff_not, beq_iff_eq, bne_iff_ne, beq_eq_false_iff_ne, bne_eq_false_iff_eq, Int.toNat_natCast, ge_iff_le, gt_iff_lt, Bool.not_eq_true', Bool.not_eq_false', Int.not_lt, Int.not_le, ne_eq] at *)
  all_goals (try dsimp only [Ty.den, Ty.dflt, MsgT] at *)
  all_goals (try simp only [eq4, ne4, eq3, ne3, eq2, ne2, Prod.eta, List.length_cons, List.length_nil, List.length_append, Nat.zero_add] at *)
  all_goals (try simp (disch := omega) only [wrap64] at *)
  all_goals
    refine Leaf.mk (ret1 (show _ = wide (kind, key, txn, ts, gone, val) from ?_))
    unfold wide
    first
    | (rw [eq_comm, decide_eq_false_iff_not]; omega)
    | (rw [eq_comm, decide_eq_true_eq]; omega)
    | (congr 1; simp only [eq_iff_iff]; omega)
    | (rw [Bool.eq_iff_iff]; simp only [decide_eq_true_eq, beq_iff_eq]; omega)
end Go.Proofs.YtoedpnniaikfbaaGreat

set_option linter.unusedVariables false
set_option linter.unusedSimpArgs false
set_option maxRecDepth 8000
set_option maxHeartbeats 4000000
namespace Go.Proofs.YtoedpnniaikfbaaGreat
open Go.Eng
abbrev MsT : Ty := .slice MsgT
end Go.Proofs.YtoedpnniaikfbaaGreat

set_option linter.unusedVariables false
set_option linter.unusedSimpArgs false
set_option maxRecDepth 8000
set_option maxHeartbeats 4000000
namespace Go.Proofs.YtoedpnniaikfbaaGreat
open Go.Eng
abbrev StrsT : Ty := .slice .str
theorem all_at' {α : Type} {p : α → Bool} {xs : List α} {i : Nat} (d : α) (h : i < xs.length) : (xs.take (i + 1)).all p = ((xs.take i).all p && p (xs.getD i d)) := by
  rw [take_at d h, List.all_append]; simp
theorem all_no' {α : Type} {p : α → Bool} {xs : List α} {i : Nat} (d : α) (h : i < xs.length) (hn : p (xs.getD i d) = false) : xs.all p = false := by
  have : ¬ xs.all p = true := fun hc => by
    rw [List.all_eq_true] at hc
    have := hc _ (getD_mem d h)
    rw [hn] at this; exact absurd this (by simp)
  simpa using this
def lightM1 (m : Msg) : Bool := decide (m.2.1.length ≤ 100 ∧ m.2.2.2.2.2.length ≤ 100)
def lightM (l : List Msg) (most : Int) : Bool := decide ((l.length : Int) ≤ most) && l.all lightM1
def sLightM : PSpec := ⟨[.d MsT, .d (.int .i64)], [⟨false, [.d .bool]⟩], fun _ => True, fun x => ((lightM x.1 x.2.1, ()), ())⟩
theorem fLightM : FnOk Tryz.prog 14 := ⟨_, Tryz.func14, by decide, rfl⟩
theorem pLightM : PSound Tryz.prog 14 sLightM := by
  refine psound (T := tab) (S := (spOf [])) (keep := k14) (by kernel_rfl) tabOk spNil (by kernel_rfl) Tryz.func14 (by kernel_rfl) (by decide) fun xs hg hp => ?_
  obtain ⟨xs, most, ⟨⟩⟩ := xs
  obtain ⟨⟨hl, hx⟩, -⟩ := hg
  change List Msg at xs
  change Int at most
  change xs.length ≤ _ at hl
  have hl := len63 hl
  clear hp
  show vfun tab _ k14 Tryz.f14 [.sl MsgT xs, .i .i64 most] [] _
  refine Ev.out ?_
  repeat' (first | ((with_reducible refine Ev.mk ?_); conv => whnf) | (with_reducible refine And.intro ?_ ?_) | (intro h))
  all_goals (try simp only [decide_eq_true_eq, decide_eq_false_iff_not, beq_iff_eq, bne_iff_ne, beq_eq_false_iff_ne, bne_eq_false_iff_eq, Int.toNat_natCast, ge_iff_le, gt_iff_lt, Bool.not_eq_true', Bool.not_eq_false', Int.not_lt, Int.not_le, ne_eq] at *)
  all_goals (try dsimp only [Ty.den, Ty.dflt, MsgT] at *)
  all_goals (try simp only [eq4, ne4, eq3, ne3, eq2, ne2, Prod.eta, List.length_cons, List.length_nil, List.length_append, Nat.zero_add] at *)
  all_goals (try simp (disch := omega) only [wrap64] at *)
  all_goals try first | exact leafDraw (by kernel_rfl) | exact Leaf.mk trivial | (refine Leaf.mk ?_; omega) | (refine Leaf.mk ?_; unfold maxLen; omega)
  · refine Leaf.mk (ret1 (show false = lightM xs most from ?_))
    rw [lightM, decide_eq_false (by omega), Bool.false_and]
  refine LoopVC.on (fun i : Nat => [(5, .i .i64 i)]) (fun _ => []) (fun i => i ≤ xs.length ∧ (xs.take i).all lightM1 = true) (fun i => xs.length - i) 0 rfl ⟨by omega, rfl⟩ ?_
  intro i ⟨hi, he⟩
  repeat' (first | ((with_reducible refine Ev.mk ?_); conv => whnf) | (with_reducible refine And.intro ?_ ?_) | (intro h))
  all_goals (try simp only [decide_eq_true_eq, decide_eq_false_iff_not, beq_iff_eq, bne_iff_ne, beq_eq_false_iff_ne, bne_eq_false_iff_eq, Int.toNat_natCast, ge_iff_le, gt_iff_lt, Bool.not_eq_true', Bool.not_eq_false', Int.not_lt, Int.not_le, ne_eq] at *)
  all_goals (try dsimp only [Ty.den, Ty.dflt, MsgT] at *)
  all_goals (try simp only [eq4, ne4, eq3, ne3, eq2, ne2, Prod.eta, List.length_cons, List.length_nil, List.length_append, Nat.zero_add] at *)
  all_goals (try simp (disch := omega) only [wrap64] at *)
  all_goals try first | exact leafDraw (by kernel_rfl) | exact Leaf.mk trivial | (refine Leaf.mk ?_; omega) | (refine Leaf.mk ?_; unfold maxLen; omega)
  all_goals first
    | (refine Leaf.mk (ret1 (show false = lightM xs most from ?_))
       rw [lightM, all_no' msg0 (by omega) (show lightM1 (xs.getD i msg0) = false from decide_eq_false (fun hc => by have h1 := hc.1; have h2 := hc.2; dsimp only [msg0] at *; omega)), Bool.and_false]
       done)
    | (refine Leaf.mk ⟨i + 1, rfl, ⟨by omega, ?_⟩, by omega⟩
       rw [all_at' msg0 (by omega), he, Bool.true_and]; exact decide_eq_true ⟨by dsimp only [msg0] at *; omega, by dsimp only [msg0] at *; omega⟩)
    | (refine Leaf.mk (ret1 (show true = lightM xs most from ?_))
       rw [List.take_of_length_le (by omega)] at he
       rw [lightM, he, Bool.and_true, decide_eq_true (by omega)]
       done)
set_option synthInstance.maxHeartbeats 400000
instance decM1 : DecidableEq (Bool × List UInt8) := inferInstance
instance decM2 : DecidableEq (Int × Bool × List UInt8) := inferInstance
instance decM3 : DecidableEq (Int × Int × Bool × List UInt8) := inferInstance
instance decM4 : DecidableEq (List UInt8 × Int × Int × Bool × List UInt8) := inferInstance
instance decMsg : DecidableEq Msg := inferInstanceAs (DecidableEq (Int × List UInt8 × Int × Int × Bool × List UInt8))
def sameM (a b : List Msg) : Bool := decide (a = b)
def sSameM : PSpec := ⟨[.d MsT, .d MsT], [⟨false, [.d .bool]⟩], fun _ => True, fun x => ((sameM x.1 x.2.1, ()), ())⟩
def sameT (a b : List (List UInt8)) : Bool := decide (a = b)
def sSameT : PSpec := ⟨[.d StrsT, .d StrsT], [⟨false, [.d .bool]⟩], fun _ => True, fun x => ((sameT x.1 x.2.1, ()), ())⟩
theorem fSameT : FnOk Tryz.prog 43 := ⟨_, Tryz.func43, by decide, rfl⟩
theorem pSameT : PSound Tryz.prog 43 sSameT := by
  refine psound (T := tab) (S := (spOf [])) (keep := k43) (by kernel_rfl) tabOk spNil (by kernel_rfl) Tryz.func43 (by kernel_rfl) (by decide) fun xs hg hp => ?_
  obtain ⟨xs, ys, ⟨⟩⟩ := xs
  obtain ⟨⟨hl, -⟩, ⟨hl2, -⟩, -⟩ := hg
  have hl := len63 hl
  have hl2 := len63 hl2
  change List (List UInt8) at xs ys
  change xs.length ≤ _ at hl
  change ys.length ≤ _ at hl2
  clear hp
  show vfun tab _ k43 Tryz.f43 [.sl .str xs, .sl .str ys] [] _
  refine Ev.out ?_
  repeat' (first | ((with_reducible refine Ev.mk ?_); conv => whnf) | (with_reducible refine And.intro ?_ ?_) | (intro h))
  all_goals (try simp only [decide_eq_true_eq, decide_eq_false_iff_not, beq_iff_eq, bne_iff_ne, beq_eq_false_iff_ne, bne_eq_false_iff_eq, Int.toNat_natCast, ge_iff_le, gt_iff_lt, Bool.not_eq_true', Bool.not_eq_false', Int.not_lt, Int.not_le, ne_eq] at *)
  all_goals (try dsimp only [Ty.den, Ty.dflt, StrsT] at *)
  all_goals (try simp only [eq4, ne4, eq3, ne3, eq2, ne2, Prod.eta, List.length_cons, List.length_nil, List.length_append, Nat.zero_add] at *)
  all_goals (try simp (disch := omega) only [wrap64] at *)
  · refine Leaf.mk (ret1 (show false = sameT xs ys from ?_))
    rw [sameT, eq_comm, decide_eq_false_iff_not]; intro hc; subst hc; omega
  refine LoopVC.on (fun i : Nat => [(5, .i .i64 i)]) (fun _ => []) (fun i => i ≤ xs.length ∧ xs.take i = ys.take i) (fun i => xs.length - i) 0 rfl ⟨by omega, by simp⟩ ?_
  intro i ⟨hi, he⟩
  repeat' (first | ((with_reducible refine Ev.mk ?_); conv => whnf) | (with_reducible refine And.intro ?_ ?_) | (intro h))
  all_goals (try simp only [decide_eq_true_eq, decide_eq_false_iff_not, beq_iff_eq, bne_iff_ne, beq_eq_false_iff_ne, bne_eq_false_iff_eq, Int.toNat_natCast, ge_iff_le, gt_iff_lt, Bool.not_eq_true', Bool.not_eq_false', Int.not_lt, Int.not_le, ne_eq] at *)
  all_goals (try dsimp only [Ty.den, Ty.dflt, StrsT] at *)
  all_goals (try simp only [eq4, ne4, eq3, ne3, eq2, ne2, Prod.eta, List.length_cons, List.length_nil, List.length_append, Nat.zero_add] at *)
  all_goals (try simp (disch := omega) only [wrap64] at *)
  all_goals try first | exact leafDraw (by kernel_rfl) | exact Leaf.mk trivial | (refine Leaf.mk ?_; omega) | (refine Leaf.mk ?_; unfold maxLen; omega)
  all_goals first
    | exact Leaf.mk (ret1 (show false = decide (xs = ys) by rw [eq_comm, decide_eq_false_iff_not]; exact same_not [] h))
    | exact Leaf.mk ⟨i + 1, rfl, ⟨by omega, same_step [] (by omega) he (by omega) h⟩, by omega⟩
    | exact Leaf.mk (ret1 (show true = decide (xs = ys) by rw [eq_comm, decide_eq_true_eq]; exact same_end (by omega) he (by omega)))
theorem fSameM : FnOk Tryz.prog 44 := ⟨_, Tryz.func44, by decide, rfl⟩
theorem pSameM : PSound Tryz.prog 44 sSameM := by
  refine psound (T := tab) (S := (spOf [])) (keep := k44) (by kernel_rfl) tabOk spNil (by kernel_rfl) Tryz.func44 (by kernel_rfl) (by decide) fun xs hg hp => ?_
  obtain ⟨xs, ys, ⟨⟩⟩ := xs
  obtain ⟨⟨hl, -⟩, ⟨hl2, -⟩, -⟩ := hg
  have hl := len63 hl
  have hl2 := len63 hl2
  change List Msg at xs ys
  change xs.length ≤ _ at hl
  change ys.length ≤ _ at hl2
  clear hp
  show vfun tab _ k44 Tryz.f44 [.sl MsgT xs, .sl MsgT ys] [] _
  refine Ev.out ?_
  repeat' (first | ((with_reducible refine Ev.mk ?_); conv => whnf) | (with_reducible refine And.intro ?_ ?_) | (intro h))
  all_goals (try simp only [decide_eq_true_eq, decide_eq_false_iff_not, beq_iff_eq, bne_iff_ne, beq_eq_false_iff_ne, bne_eq_false_iff_eq, Int.toNat_natCast, ge_iff_le, gt_iff_lt, Bool.not_eq_true', Bool.not_eq_false', Int.not_lt, Int.not_le, ne_eq] at *)
  all_goals (try dsimp only [Ty.den, Ty.dflt, MsgT] at *)
  all_goals (try simp only [eq4, ne4, eq3, ne3, eq2, ne2, Prod.eta, List.length_cons, List.length_nil, List.length_append, Nat.zero_add] at *)
  all_goals (try simp (disch := omega) only [wrap64] at *)
  · refine Leaf.mk (ret1 (show false = sameM xs ys from ?_))
    rw [sameM, eq_comm, decide_eq_false_iff_not]; intro hc; subst hc; omega
  refine LoopVC.on (fun i : Nat => [(5, .i .i64 i)]) (fun _ => []) (fun i => i ≤ xs.length ∧ xs.take i = ys.take i) (fun i => xs.length - i) 0 rfl ⟨by omega, by simp⟩ ?_
  intro i ⟨hi, he⟩
  repeat' (first | ((with_reducible refine Ev.mk ?_); conv => whnf) | (with_reducible refine And.intro ?_ ?_) | (intro h))
  all_goals (try simp only [decide_eq_true_eq, decide_eq_false_iff_not, beq_iff_eq, bne_iff_ne, beq_eq_false_iff_ne, bne_eq_false_iff_eq, Int.toNat_natCast, ge_iff_le, gt_iff_lt, Bool.not_eq_true', Bool.not_eq_false', Int.not_lt, Int.not_le, ne_eq] at *)
  all_goals (try dsimp only [Ty.den, Ty.dflt, MsgT] at *)
  all_goals (try simp only [eq4, ne4, eq3, ne3, eq2, ne2, Prod.eta, List.length_cons, List.length_nil, List.length_append, Nat.zero_add] at *)
  all_goals (try simp (disch := omega) only [wrap64] at *)
  all_goals try first | exact leafDraw (by kernel_rfl) | exact Leaf.mk trivial | (refine Leaf.mk ?_; omega) | (refine Leaf.mk ?_; unfold maxLen; omega)
  all_goals try rw [eq6] at h
  all_goals try rw [ne6] at h
  all_goals first
    | exact Leaf.mk (ret1 (show false = decide (xs = ys) by rw [eq_comm, decide_eq_false_iff_not]; exact same_not msg0 h))
    | exact Leaf.mk ⟨i + 1, rfl, ⟨by omega, same_step msg0 (by omega) he (by omega) h⟩, by omega⟩
    | exact Leaf.mk (ret1 (show true = decide (xs = ys) by rw [eq_comm, decide_eq_true_eq]; exact same_end (by omega) he (by omega)))
end Go.Proofs.YtoedpnniaikfbaaGreat

set_option linter.unusedVariables false
set_option linter.unusedSimpArgs false
set_option maxRecDepth 8000
set_option maxHeartbeats 4000000
namespace Go.Proofs.YtoedpnniaikfbaaGreat
open Go.Eng
def gvB (g : Bool) (v : List UInt8) : List Int := (if g = true then 1 else 0) :: putText v
def putM (m : Msg) : List Int := m.1 :: ((if m.1 = 0 then putText m.2.1 else []) ++ ((if m.1 = 3 then [] else putSmall m.2.2.1) ++ ((if m.1 = 1 ∨ m.1 = 3 then putSmall m.2.2.2.1 else []) ++ (if m.1 = 0 then gvB m.2.2.2.2.1 m.2.2.2.2.2 else []))))
structure MsgOk (m : Msg) : Prop where
  kind : m.1 ≤ 3
  form : mForm m
  txn : 0 ≤ m.2.2.1 ∧ m.2.2.1 ≤ 1099511627776
  ts : 0 ≤ m.2.2.2.1 ∧ m.2.2.2.1 ≤ 1099511627776
  key : m.2.1.length ≤ 16
  val : m.2.2.2.2.2.length ≤ 24
theorem mcheck_ok {m : Msg} (h : mcheck m = 0) : MsgOk m := by
  unfold mcheck at h
  split at h
  · exact absurd h (by decide)
  split at h
  · exact absurd h (by decide)
  split at h
  · exact absurd h (by decide)
  split at h
  · exact absurd h (by decide)
  rename_i h1 h2 h3 h4
  have h5 : inB m.2.2.1 = true ∧ inB m.2.2.2.1 = true := Classical.byContradiction fun hc => h3 (.inl hc)
  exact ⟨by omega, Classical.byContradiction h2, of_decide_eq_true h5.1, of_decide_eq_true h5.2, by omega, by omega⟩
theorem gvB_len (g : Bool) (v : List UInt8) : (gvB g v).length ≤ 2 * v.length + 3 := by
  have := putText_len v
  rw [gvB, List.length_cons]; omega
theorem putM_len {m : Msg} (h : mcheck m = 0) : (putM m).length ≤ 104 := by
  have ok := mcheck_ok h
  have h1 := putText_len m.2.1
  have h2 := putSmall_len m.2.2.1
  have h3 := putSmall_len m.2.2.2.1
  have h4 := gvB_len m.2.2.2.2.1 m.2.2.2.2.2
  have := ok.key
  have := ok.val
  unfold putM
  simp only [List.length_cons, List.length_append]
  repeat' split
  all_goals (try simp only [List.length_nil]); omega
theorem isB_gv (g : Bool) (v : List UInt8) : isB (gvB g v) := by
  intro x hx
  rcases List.mem_cons.1 hx with h | h
  · rw [h]; split <;> omega
  · exact isB_put _ x h
theorem isB_M {m : Msg} (h0 : 0 ≤ m.1) (h : m.1 ≤ 255) : isB (putM m) := by
  intro x hx
  rcases List.mem_cons.1 hx with hx | hx
  · rw [hx]; omega
  · have hn : isB ([] : List Int) := fun x hx => by simp at hx
    refine (isB_append ?_ (isB_append ?_ (isB_append ?_ ?_))) x hx
    · split; exact isB_put _; exact hn
    · split; exact hn; exact isB_small _
    · split; exact isB_small _; exact hn
    · split; exact isB_gv _ _; exact hn
def putR12 (m : Msg) : List Int × Int := if mcheck m = 0 then (putM m, 0) else ([], mcheck m)
def sMPut : PSpec := ⟨[.d MsgT], [⟨false, [.o 5 (.int .u8)]⟩, ⟨false, [.d (.int .i64)]⟩], fun _ => True, fun x => (((putR12 x.1).1, ()), ((putR12 x.1).2, ()), ())⟩
def sMPutR : PSpec := sMPut
def sMFlag : PSpec := sFlag
theorem fMFlag : FnOk Tryz.prog 90 := ⟨_, Tryz.func90, by decide, rfl⟩
theorem pMFlag : PSound Tryz.prog 90 sMFlag := by
  refine psound (T := tab) (S := (spOf [])) (keep := k90) (by kernel_rfl) tabOk spNil (by kernel_rfl) Tryz.func90 (by kernel_rfl) (by decide) fun xs hg hp => ?_
  obtain ⟨g, ⟨⟩⟩ := xs
  change Bool at g
  show vfun tab _ k90 Tryz.f90 [.b g] [] _
  refine Ev.out ?_
  repeat' (first | ((with_reducible refine Ev.mk ?_); conv => whnf) | (with_reducible refine And.intro ?_ ?_) | (intro h))
  · exact Leaf.mk (ret1 (show (1 : Int) = if g = true then 1 else 0 by rw [if_pos h]))
  · exact Leaf.mk (ret1 (show (0 : Int) = if g = true then 1 else 0 by rw [if_neg (by rw [h]; simp)]))
theorem fMPut : FnOk Tryz.prog 61 := ⟨_, Tryz.func61, by decide, rfl⟩
theorem pMPut : PSound Tryz.prog 61 sMPut := by
  refine psound (T := tab) (S := (spOf [(47, sMCheck.spec (lsOf [])), (73, sOf.spec (lsOf [])), (59, sPutText.spec (lsOf [])), (58, sPutSmall.spec (lsOf [])), (90, sMFlag.spec (lsOf []))])) (keep := k61) (by kernel_rfl) tabOk (spCons (pOk pMCheck fMCheck (by decide) lsNil) (spCons (pOk pOf fOf (by decide) lsNil) (spCons (pOk pPutText fPutText (by decide) lsNil) (spCons (pOk pPutSmall fPutSmall (by decide) lsNil) (spCons (pOk pMFlag fMFlag (by decide) lsNil) spNil))))) (by kernel_rfl) Tryz.func61 (by kernel_rfl) (by decide) fun xs hg hp => ?_
  obtain ⟨⟨kind, key, txn, ts, gone, val⟩, ⟨⟩⟩ := xs
  obtain ⟨⟨hk, -⟩, -⟩ := hg
  change List UInt8 at key
  change List UInt8 at val
  change Int at kind txn ts
  change Bool at gone
  have hk := bdu8 hk
  clear hp
  show vfun tab _ k61 Tryz.f61 [.agg [.i .u8 kind, .s key, .i .i64 txn, .i .i64 ts, .b gone, .s val]] [] _
  refine Ev.out ?_
  repeat' (first | ((with_reducible refine Ev.mk ?_); conv => whnf) | (with_reducible refine And.intro ?_ ?_) | (intro h))
  all_goals (try simp only [decide_eq_true_eq, decide_eq_false_iff_not, beq_iff_eq, bne_iff_ne, beq_eq_false_iff_ne, bne_eq_false_iff_eq, Int.toNat_natCast, ge_iff_le, gt_iff_lt, Bool.not_eq_true', Bool.not_eq_false', Int.not_lt, Int.not_le, ne_eq] at *)
  all_goals (try dsimp only [Ty.den, Ty.dflt, MsgT, sMCheck, sOf, ofK, sPutText, sPutSmall, sMFlag, sFlag] at *)
  all_goals (try simp only [eq4, ne4, eq3, ne3, eq2, ne2, Prod.eta, List.length_cons, List.length_nil, List.length_append, Nat.zero_add] at *)
  all_goals (try simp (disch := omega) only [wrap64] at *)
  all_goals try first | exact leafDraw (by kernel_rfl) | exact Leaf.mk trivial | (refine Leaf.mk ?_; omega) | (refine Leaf.mk ?_; unfold maxLen; omega)
  all_goals try simp only [decide_eq_true_eq, decide_eq_false_iff_not] at *
  all_goals try exact Leaf.mk (retB (u := ([], mcheck (kind, key, txn, ts, gone, val))) (if_neg h).symm)
  all_goals
    have ok := mcheck_ok ‹mcheck (kind, key, txn, ts, gone, val) = 0›
    have hk1 := ok.key
    have hv1 := ok.val
    have hk2 := ok.kind
    have ht1 := ok.txn
    have ht2 := ok.ts
    dsimp only at hk1 hv1 hk2 ht1 ht2
    try rw [wrapu ht1] at *
    try rw [wrapu ht2] at *
    have hl1 := putText_len key
    have hl2 := putSmall_len txn
    have hl3 := putSmall_len ts
    have hl4 := putText_len val
  all_goals try first
    | (refine Leaf.mk ?_; omega)
    | (refine Leaf.mk ?_; unfold maxLen; omega)
    | exact Leaf.mk (show key.length ≤ 100000 by omega)
    | exact Leaf.mk (show val.length ≤ 100000 by omega)
  all_goals
    refine Leaf.mk (retB (u := (_, 0)) (v := putR12 (kind, key, txn, ts, gone, val)) ?_)
    rw [putR12, if_pos ‹mcheck (kind, key, txn, ts, gone, val) = 0›]
    rcases (by omega : kind = 0 ∨ kind = 1 ∨ kind = 2 ∨ kind = 3) with rfl | rfl | rfl | rfl
  all_goals first
    | (exfalso; omega)
    | (simp [putM, gvB, *]; done)
    | (simp_all [putM, gvB]; done)
theorem fMPutR : FnOk Tryz.prog 68 := ⟨_, Tryz.func68, by decide, rfl⟩
theorem pMPutR : PSound Tryz.prog 68 sMPutR := by
  refine psound (T := tab) (S := (spOf [(63, sMCheckR.spec (lsOf [])), (67, sPutTextR.spec (lsOf [])), (66, sPutSmallR.spec (lsOf []))])) (keep := k68) (by kernel_rfl) tabOk (spCons (pOk pMCheckR fMCheckR (by decide) lsNil) (spCons (pOk pPutTextR fPutTextR (by decide) lsNil) (spCons (pOk pPutSmallR fPutSmallR (by decide) lsNil) spNil))) (by kernel_rfl) Tryz.func68 (by kernel_rfl) (by decide) fun xs hg hp => ?_
  obtain ⟨⟨kind, key, txn, ts, gone, val⟩, ⟨⟩⟩ := xs
  obtain ⟨⟨hk, -⟩, -⟩ := hg
  change List UInt8 at key
  change List UInt8 at val
  change Int at kind txn ts
  change Bool at gone
  have hk := bdu8 hk
  clear hp
  show vfun tab _ k68 Tryz.f68 [.agg [.i .u8 kind, .s key, .i .i64 txn, .i .i64 ts, .b gone, .s val]] [] _
  refine Ev.out ?_
  repeat' (first | ((with_reducible refine Ev.mk ?_); conv => whnf) | (with_reducible refine And.intro ?_ ?_) | (intro h))
  all_goals (try simp only [decide_eq_true_eq, decide_eq_false_iff_not, beq_iff_eq, bne_iff_ne, beq_eq_false_iff_ne, bne_eq_false_iff_eq, Int.toNat_natCast, ge_iff_le, gt_iff_lt, Bool.not_eq_true', Bool.not_eq_false', Int.not_lt, Int.not_le, ne_eq] at *)
  all_goals (try dsimp only [Ty.den, Ty.dflt, MsgT, sMCheckR, sMCheck, sPutTextR, sPutSmallR, sPutText, sPutSmall] at *)
  all_goals (try simp only [eq4, ne4, eq3, ne3, eq2, ne2, Prod.eta, List.length_cons, List.length_nil, List.length_append, Nat.zero_add] at *)
  all_goals (try simp (disch := omega) only [wrap64] at *)
  all_goals try first | exact leafDraw (by kernel_rfl) | exact Leaf.mk trivial | (refine Leaf.mk ?_; omega) | (refine Leaf.mk ?_; unfold maxLen; omega)
  all_goals try simp only [decide_eq_true_eq, decide_eq_false_iff_not] at *
  all_goals try exact Leaf.mk (retB (u := ([], mcheck (kind, key, txn, ts, gone, val))) (if_neg h).symm)
  all_goals
    have ok := mcheck_ok ‹mcheck (kind, key, txn, ts, gone, val) = 0›
    have hk1 := ok.key
    have hv1 := ok.val
    have hk2 := ok.kind
    have ht1 := ok.txn
    have ht2 := ok.ts
    dsimp only at hk1 hv1 hk2 ht1 ht2
    try rw [wrapu ht1] at *
    try rw [wrapu ht2] at *
    have hl1 := putText_len key
    have hl2 := putSmall_len txn
    have hl3 := putSmall_len ts
    have hl4 := putText_len val
  all_goals try first
    | (refine Leaf.mk ?_; omega)
    | (refine Leaf.mk ?_; unfold maxLen; omega)
    | exact Leaf.mk (show key.length ≤ 100000 by omega)
    | exact Leaf.mk (show val.length ≤ 100000 by omega)
  all_goals
    refine Leaf.mk (retB (u := (_, 0)) (v := putR12 (kind, key, txn, ts, gone, val)) ?_)
    rw [putR12, if_pos ‹mcheck (kind, key, txn, ts, gone, val) = 0›]
    rcases (by omega : kind = 0 ∨ kind = 1 ∨ kind = 2 ∨ kind = 3) with rfl | rfl | rfl | rfl
  all_goals first
    | (exfalso; omega)
    | (simp [putM, gvB, *]; done)
    | (simp_all [putM, gvB]; done)
def sMSize : PSpec := ⟨[.d MsgT], [⟨false, [.d (.int .i64)]⟩], fun _ => True, fun x => (((List.length (putR12 x.1).1 : Nat), ()), ())⟩
theorem fMSize : FnOk Tryz.prog 53 := ⟨_, Tryz.func53, by decide, rfl⟩
theorem pMSize : PSound Tryz.prog 53 sMSize := by
  refine psound (T := tab) (S := (spOf [(61, sMPut.spec (lsOf []))])) (keep := k53) (by kernel_rfl) tabOk (spCons (pOk pMPut fMPut (by decide) lsNil) spNil) (by kernel_rfl) Tryz.func53 (by kernel_rfl) (by decide) fun xs hg hp => ?_
  obtain ⟨⟨kind, key, txn, ts, gone, val⟩, ⟨⟩⟩ := xs
  obtain ⟨⟨hk, -⟩, -⟩ := hg
  change List UInt8 at key
  change List UInt8 at val
  change Int at kind txn ts
  change Bool at gone
  have hk := bdu8 hk
  clear hp
  show vfun tab _ k53 Tryz.f53 [.agg [.i .u8 kind, .s key, .i .i64 txn, .i .i64 ts, .b gone, .s val]] [] _
  refine Ev.out ?_
  repeat' (first | ((with_reducible refine Ev.mk ?_); conv => whnf) | (with_reducible refine And.intro ?_ ?_) | (intro h))
  all_goals first | exact Leaf.mk trivial | exact Leaf.mk rfl
end Go.Proofs.YtoedpnniaikfbaaGreat

set_option linter.unusedVariables false
set_option linter.unusedSimpArgs false
set_option maxRecDepth 8000
set_option maxHeartbeats 4000000
namespace Go.Proofs.YtoedpnniaikfbaaGreat
open Go.Eng
abbrev TsT : Ty := .slice .str
abbrev BfT : Ty := .slice (.slice MsgT)
abbrev InT : Ty := .pair TsT (.pair (.slice (.int .i64)) BfT)
abbrev Inn : Type := List (List UInt8) × List Int × List (List Msg)
abbrev inn0 : Inn := ([], [], [])
def wholeI (n : Inn) : Bool := decide (n.2.2.length = n.2.1.length ∧ n.1.length + 1 = n.2.1.length)
theorem wholeI_iff {n : Inn} : wholeI n = true ↔ n.2.2.length = n.2.1.length ∧ n.1.length + 1 = n.2.1.length := decide_eq_true_iff
def sWhole : PSpec := ⟨[.d InT], [⟨false, [.d .bool]⟩], fun _ => True, fun x => ((wholeI x.1, ()), ())⟩
def sWholeR : PSpec := sWhole
theorem fWhole : FnOk Tryz.prog 46 := ⟨_, Tryz.func46, by decide, rfl⟩
theorem pWhole : PSound Tryz.prog 46 sWhole := by
  refine psound (T := tab) (S := (spOf [])) (keep := k46) (by kernel_rfl) tabOk spNil (by kernel_rfl) Tryz.func46 (by kernel_rfl) (by decide) fun xs hg hp => ?_
  obtain ⟨⟨ps, ks, bs⟩, ⟨⟩⟩ := xs
  obtain ⟨⟨⟨hlp, -⟩, ⟨hlk, -⟩, ⟨hlb, -⟩⟩, -⟩ := hg
  change List (List UInt8) at ps
  change List Int at ks
  change List (List Msg) at bs
  have hlp := len63 hlp
  have hlk := len63 hlk
  have hlb := len63 hlb
  clear hp
  show vfun tab _ k46 Tryz.f46 [.agg [.sl .str ps, .sl (.int .i64) ks, .sl (.slice MsgT) bs]] [] _
  refine Ev.out ?_
  repeat' (first | ((with_reducible refine Ev.mk ?_); conv => whnf) | (with_reducible refine And.intro ?_ ?_) | (intro h))
  all_goals (try simp only [decide_eq_true_eq, decide_eq_false_iff_not, beq_iff_eq, bne_iff_ne, beq_eq_false_iff_ne, bne_eq_false_iff_eq, Int.toNat_natCast, ge_iff_le, gt_iff_lt, Bool.not_eq_true', Bool.not_eq_false', Int.not_lt, Int.not_le, ne_eq] at *)
  all_goals (try dsimp only [Ty.den, Ty.dflt, InT] at *)
  all_goals (try simp only [eq4, ne4, eq3, ne3, eq2, ne2, Prod.eta, List.length_cons, List.length_nil, List.length_append, Nat.zero_add] at *)
  all_goals (try simp (disch := omega) only [wrap64] at *)
  all_goals try first | exact leafDraw (by kernel_rfl) | exact Leaf.mk trivial | (refine Leaf.mk ?_; omega) | (refine Leaf.mk ?_; unfold maxLen; omega)
  all_goals first
    | (refine Leaf.mk (ret1 (show _ = wholeI (ps, ks, bs) from ?_)); simp only [wholeI]; first | rfl | (apply Bool.eq_iff_iff.2; simp; omega))
    | skip
theorem fWholeR : FnOk Tryz.prog 62 := ⟨_, Tryz.func62, by decide, rfl⟩
theorem pWholeR : PSound Tryz.prog 62 sWholeR := by
  refine psound (T := tab) (S := (spOf [])) (keep := k62) (by kernel_rfl) tabOk spNil (by kernel_rfl) Tryz.func62 (by kernel_rfl) (by decide) fun xs hg hp => ?_
  obtain ⟨⟨ps, ks, bs⟩, ⟨⟩⟩ := xs
  obtain ⟨⟨⟨hlp, -⟩, ⟨hlk, -⟩, ⟨hlb, -⟩⟩, -⟩ := hg
  change List (List UInt8) at ps
  change List Int at ks
  change List (List Msg) at bs
  have hlp := len63 hlp
  have hlk := len63 hlk
  have hlb := len63 hlb
  clear hp
  show vfun tab _ k62 Tryz.f62 [.agg [.sl .str ps, .sl (.int .i64) ks, .sl (.slice MsgT) bs]] [] _
  refine Ev.out ?_
  repeat' (first | ((with_reducible refine Ev.mk ?_); conv => whnf) | (with_reducible refine And.intro ?_ ?_) | (intro h))
  all_goals (try simp only [decide_eq_true_eq, decide_eq_false_iff_not, beq_iff_eq, bne_iff_ne, beq_eq_false_iff_ne, bne_eq_false_iff_eq, Int.toNat_natCast, ge_iff_le, gt_iff_lt, Bool.not_eq_true', Bool.not_eq_false', Int.not_lt, Int.not_le, ne_eq] at *)
  all_goals (try dsimp only [Ty.den, Ty.dflt, InT] at *)
  all_goals (try simp only [eq4, ne4, eq3, ne3, eq2, ne2, Prod.eta, List.length_cons, List.length_nil, List.length_append, Nat.zero_add] at *)
  all_goals (try simp (disch := omega) only [wrap64] at *)
  all_goals try first | exact leafDraw (by kernel_rfl) | exact Leaf.mk trivial | (refine Leaf.mk ?_; omega) | (refine Leaf.mk ?_; unfold maxLen; omega)
  all_goals first
    | (refine Leaf.mk (ret1 (show _ = wholeI (ps, ks, bs) from ?_)); simp only [wholeI]; first | rfl | (apply Bool.eq_iff_iff.2; simp; omega))
    | skip
def atP (k p : List UInt8) : Bool := sless p k || p == k
def routeI (ps : List (List UInt8)) (k : List UInt8) : Nat := (ps.filter (atP k)).length
theorem routeI_at {ps : List (List UInt8)} {i : Nat} {k : List UInt8} (h : i < ps.length) : routeI (ps.take (i + 1)) k = routeI (ps.take i) k + (if atP k (ps.getD i []) = true then 1 else 0) := by
  rw [routeI, filter_at [] h, List.length_append, routeI]
  split <;> rfl
theorem routeI_le (ps : List (List UInt8)) (k : List UInt8) : routeI ps k ≤ ps.length := List.length_filter_le _ _
def sRoute : PSpec := ⟨[.d InT, .d .str], [⟨false, [.d (.int .i64)]⟩], fun _ => True, fun x => (((routeI x.1.1 x.2.1 : Nat), ()), ())⟩
def sRouteR : PSpec := sRoute
theorem fRoute : FnOk Tryz.prog 25 := ⟨_, Tryz.func25, by decide, rfl⟩
theorem pRoute : PSound Tryz.prog 25 sRoute := by
  refine psound (T := tab) (S := (spOf [])) (keep := k25) (by kernel_rfl) tabOk spNil (by kernel_rfl) Tryz.func25 (by kernel_rfl) (by decide) fun xs hg hp => ?_
  obtain ⟨⟨ps, ks, bs⟩, key, ⟨⟩⟩ := xs
  obtain ⟨⟨⟨hlp, -⟩, ⟨hlk, -⟩, ⟨hlb, -⟩⟩, -⟩ := hg
  change List (List UInt8) at ps
  change List Int at ks
  change List (List Msg) at bs
  change List UInt8 at key
  have hlp := len63 hlp
  clear hlk hlb hp
  show vfun tab _ k25 Tryz.f25 [.agg [.sl .str ps, .sl (.int .i64) ks, .sl (.slice MsgT) bs], .s key] [] _
  refine Ev.out ?_
  repeat' (first | ((with_reducible refine Ev.mk ?_); conv => whnf) | (with_reducible refine And.intro ?_ ?_) | (intro h))
  refine LoopVC.on (fun i : Nat => [(5, .i .i64 (routeI (ps.take i) key : Nat)), (11, .i .i64 i)]) (fun _ => []) (fun i => i ≤ ps.length) (fun i => ps.length - i) 0 rfl (by omega) ?_
  intro i hi
  have hat := fun h => routeI_at (ps := ps) (i := i) (k := key) h
  have hle := routeI_le (ps.take i) key
  rw [List.length_take] at hle
  repeat' (first | ((with_reducible refine Ev.mk ?_); conv => whnf) | (with_reducible refine And.intro ?_ ?_) | (intro h))
  all_goals (try simp only [decide_eq_true_eq, decide_eq_false_iff_not, beq_iff_eq, bne_iff_ne, beq_eq_false_iff_ne, bne_eq_false_iff_eq, Int.toNat_natCast, ge_iff_le, gt_iff_lt, Bool.not_eq_true', Bool.not_eq_false', Int.not_lt, Int.not_le, ne_eq] at *)
  all_goals (try dsimp only [Ty.den, Ty.dflt, InT] at *)
  all_goals (try simp only [eq4, ne4, eq3, ne3, eq2, ne2, Prod.eta, List.length_cons, List.length_nil, List.length_append, Nat.zero_add] at *)
  all_goals (try simp (disch := omega) only [wrap64] at *)
  all_goals try first | exact leafDraw (by kernel_rfl) | exact Leaf.mk trivial | (refine Leaf.mk ?_; omega) | (refine Leaf.mk ?_; unfold maxLen; omega)
  · refine Leaf.mk (Exists.intro (i + 1) ⟨?_, by omega, by omega⟩)
    rw [hat (by omega), if_pos (show atP key (ps.getD i []) = true from ‹_›)]; rfl
  · refine Leaf.mk (Exists.intro (i + 1) ⟨?_, by omega, by omega⟩)
    rw [hat (by omega), if_neg (by rw [show atP key (ps.getD i []) = false from ‹_›]; simp)]; rfl
  · refine Leaf.mk (ret1 (show ((routeI (ps.take i) key : Nat) : Int) = (routeI ps key : Nat) from ?_))
    rw [List.take_of_length_le (by omega)]
theorem fRouteR : FnOk Tryz.prog 64 := ⟨_, Tryz.func64, by decide, rfl⟩
theorem pRouteR : PSound Tryz.prog 64 sRouteR := by
  refine psound (T := tab) (S := (spOf [])) (keep := k64) (by kernel_rfl) tabOk spNil (by kernel_rfl) Tryz.func64 (by kernel_rfl) (by decide) fun xs hg hp => ?_
  obtain ⟨⟨ps, ks, bs⟩, key, ⟨⟩⟩ := xs
  obtain ⟨⟨⟨hlp, -⟩, ⟨hlk, -⟩, ⟨hlb, -⟩⟩, -⟩ := hg
  change List (List UInt8) at ps
  change List Int at ks
  change List (List Msg) at bs
  change List UInt8 at key
  have hlp := len63 hlp
  clear hlk hlb hp
  show vfun tab _ k64 Tryz.f64 [.agg [.sl .str ps, .sl (.int .i64) ks, .sl (.slice MsgT) bs], .s key] [] _
  refine Ev.out ?_
  repeat' (first | ((with_reducible refine Ev.mk ?_); conv => whnf) | (with_reducible refine And.intro ?_ ?_) | (intro h))
  refine LoopVC.on (fun i : Nat => [(5, .i .i64 (routeI (ps.take i) key : Nat)), (6, .i .i64 i)]) (fun _ => []) (fun i => i ≤ ps.length) (fun i => ps.length - i) 0 rfl (by omega) ?_
  intro i hi
  have hat := fun h => routeI_at (ps := ps) (i := i) (k := key) h
  have hle := routeI_le (ps.take i) key
  rw [List.length_take] at hle
  repeat' (first | ((with_reducible refine Ev.mk ?_); conv => whnf) | (with_reducible refine And.intro ?_ ?_) | (intro h))
  all_goals (try simp only [decide_eq_true_eq, decide_eq_false_iff_not, beq_iff_eq, bne_iff_ne, beq_eq_false_iff_ne, bne_eq_false_iff_eq, Int.toNat_natCast, ge_iff_le, gt_iff_lt, Bool.not_eq_true', Bool.not_eq_false', Int.not_lt, Int.not_le, ne_eq] at *)
  all_goals (try dsimp only [Ty.den, Ty.dflt, InT] at *)
  all_goals (try simp only [eq4, ne4, eq3, ne3, eq2, ne2, Prod.eta, List.length_cons, List.length_nil, List.length_append, Nat.zero_add] at *)
  all_goals (try simp (disch := omega) only [wrap64] at *)
  all_goals try first | exact leafDraw (by kernel_rfl) | exact Leaf.mk trivial | (refine Leaf.mk ?_; omega) | (refine Leaf.mk ?_; unfold maxLen; omega)
  · refine Leaf.mk (Exists.intro (i + 1) ⟨?_, by omega, by omega⟩)
    rw [hat (by omega), if_pos (show atP key (ps.getD i []) = true from ‹_›)]; rfl
  · refine Leaf.mk (Exists.intro (i + 1) ⟨?_, by omega, by omega⟩)
    rw [hat (by omega), if_neg (by rw [show atP key (ps.getD i []) = false from ‹_›]; simp)]; rfl
  · refine Leaf.mk (ret1 (show ((routeI (ps.take i) key : Nat) : Int) = (routeI ps key : Nat) from ?_))
    rw [List.take_of_length_le (by omega)]
end Go.Proofs.YtoedpnniaikfbaaGreat
