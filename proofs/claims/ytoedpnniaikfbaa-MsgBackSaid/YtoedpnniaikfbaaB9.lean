import Derived.Test.YtoedpnniaikfbaaB8



set_option linter.unusedVariables false
set_option linter.unusedSimpArgs false
namespace Go.Proofs.Ytoedpnniaikfbaa
open Go.Eng
def sgn (a b : Int) : Int := if a < b then -1 else if b < a then 1 else 0
theorem cmpL_snoc : ∀ (a b : List Int) (x y : Int), a.length = b.length → cmpL (a ++ [x]) (b ++ [y]) = if cmpL a b = 0 then sgn x y else cmpL a b
  | [], [], x, y, _ => by simp [cmpL, sgn]
  | [], _ :: _, _, _, h => by simp at h
  | _ :: _, [], _, _, h => by simp at h
  | p :: a, q :: b, x, y, h => by
    have ih := cmpL_snoc a b x y (by simpa using h)
    rw [List.cons_append, List.cons_append]
    by_cases h1 : p < q
    · rw [cmpL_lt h1, cmpL_lt h1]; rfl
    · by_cases h2 : q < p
      · rw [cmpL_gt h2, cmpL_gt h2]; rfl
      · obtain rfl : p = q := by omega
        rw [cmpL_cons, cmpL_cons, ih]
theorem lay_cmp : ∀ (k : Nat) (n m : Int), 0 ≤ n → n < 256 ^ k → 0 ≤ m → m < 256 ^ k → cmpL (layB n k) (layB m k) = sgn n m
  | 0, n, m, h1, h2, h3, h4 => by
    rw [Int.pow_zero] at h2 h4
    unfold sgn
    rw [if_neg (by omega), if_neg (by omega)]; rfl
  | k + 1, n, m, h1, h2, h3, h4 => by
    rw [Int.pow_succ] at h2 h4
    have ih := lay_cmp k (n / 256) (m / 256) (by omega) (Int.ediv_lt_of_lt_mul (by decide) h2) (by omega) (Int.ediv_lt_of_lt_mul (by decide) h4)
    rw [layB, layB, cmpL_snoc _ _ _ _ (by rw [layB_len, layB_len]), ih]
    unfold sgn
    repeat' split
    all_goals omega
theorem p8 : (256 : Int) ^ 8 = 18446744073709551616 := by decide
theorem putInt_cmp {a b : Int} (ha : -9223372036854775808 ≤ a ∧ a ≤ 9223372036854775807) (hb : -9223372036854775808 ≤ b ∧ b ≤ 9223372036854775807) : cmpL (putInt a) (putInt b) = sgn a b := by
  unfold putInt
  rw [lay_cmp 8 _ _ (by omega) (by rw [p8]; omega) (by omega) (by rw [p8]; omega)]
  unfold sgn
  repeat' split
  all_goals omega
theorem widthN_zero : ∀ f, widthN f 0 = 0
  | 0 => rfl
  | f + 1 => by rw [widthN, if_neg (by omega)]
theorem widthN_hi : ∀ (f : Nat) (n : Int), 0 ≤ n → n < 256 ^ f → n < 256 ^ (widthN f n)
  | 0, n, h1, h2 => h2
  | f + 1, n, h1, h2 => by
    rw [Int.pow_succ] at h2
    rw [widthN]
    split
    · have := widthN_hi f (n / 256) (by omega) (Int.ediv_lt_of_lt_mul (by decide) h2)
      rw [Int.pow_succ]; omega
    · rw [Int.pow_zero]; omega
theorem widthN_lo : ∀ (f : Nat) (n : Int), 0 < n → n < 256 ^ f → ∃ w, widthN f n = w + 1 ∧ 256 ^ w ≤ n
  | 0, n, h1, h2 => by rw [Int.pow_zero] at h2; omega
  | f + 1, n, h1, h2 => by
    rw [Int.pow_succ] at h2
    rw [widthN, if_pos h1]
    refine ⟨_, rfl, ?_⟩
    by_cases h0 : n / 256 = 0
    · rw [h0, widthN_zero, Int.pow_zero]; omega
    · obtain ⟨w, hw, hl⟩ := widthN_lo f (n / 256) (by omega) (Int.ediv_lt_of_lt_mul (by decide) h2)
      rw [hw, Int.pow_succ]; omega
theorem pow_up (a d : Nat) : (256 : Int) ^ a ≤ 256 ^ (a + d) := by
  induction d with
  | zero => exact Int.le_refl _
  | succ d ih =>
    rw [← Nat.add_assoc, Int.pow_succ]
    have : (0 : Int) < 256 ^ (a + d) := Int.pow_pos (by decide)
    omega
theorem width_lt {n m : Int} (hn : 0 ≤ n ∧ n ≤ 18446744073709551615) (hm : 0 ≤ m ∧ m ≤ 18446744073709551615) (h : widthN 8 n < widthN 8 m) : n < m := by
  have h1 := widthN_hi 8 n hn.1 (by rw [p8]; omega)
  by_cases h0 : 0 < m
  · obtain ⟨w, hw, hl⟩ := widthN_lo 8 m h0 (by rw [p8]; omega)
    have := pow_up (widthN 8 n) (w - widthN 8 n)
    rw [show widthN 8 n + (w - widthN 8 n) = w by omega] at this
    omega
  · obtain rfl : m = 0 := by omega
    rw [widthN_zero] at h; omega
theorem putSmall_cmp {n m : Int} (hn : 0 ≤ n ∧ n ≤ 18446744073709551615) (hm : 0 ≤ m ∧ m ≤ 18446744073709551615) : cmpL (putSmall n) (putSmall m) = sgn n m := by
  unfold putSmall sgn
  by_cases h1 : widthN 8 n < widthN 8 m
  · rw [cmpL_lt (by omega), if_pos (width_lt hn hm h1)]
  · by_cases h2 : widthN 8 m < widthN 8 n
    · have := width_lt hm hn h2
      rw [cmpL_gt (by omega), if_neg (by omega), if_pos this]
    · have e : widthN 8 m = widthN 8 n := by omega
      rw [e, cmpL_cons]
      have h3 := widthN_hi 8 m hm.1 (by rw [p8]; omega)
      rw [e] at h3
      rw [lay_cmp _ _ _ hn.1 (widthN_hi 8 n hn.1 (by rw [p8]; omega)) hm.1 h3]; rfl
/-! What is put is got. -/
theorem txt_put (b : List Int) : ∀ (xs acc : List Int) (p : Nat), txt (putB xs ++ b) acc p = (acc ++ xs, ((p + (putB xs).length : Nat) : Int), 0)
  | [], acc, p => by
    show txt (0 :: 1 :: b) acc p = _
    rw [txt_esc rfl, if_pos rfl, List.append_nil]; rfl
  | x :: xs, acc, p => by
    rw [putB_cons, List.append_assoc]
    unfold escI
    by_cases h : x = 0
    · rw [if_pos h]
      show txt (0 :: 255 :: (putB xs ++ b)) acc p = _
      rw [txt_esc rfl, if_neg (by omega), if_pos rfl, txt_put b xs]
      subst h
      simp only [List.append_assoc, List.cons_append, List.nil_append, List.length_cons]
      congr 3; omega
    · rw [if_neg h]
      show txt (x :: (putB xs ++ b)) acc p = _
      rw [txt_ne h, txt_put b xs]
      simp only [List.append_assoc, List.cons_append, List.nil_append, List.length_cons]
      congr 3; omega
theorem putB_ne (xs : List Int) : putB xs ≠ [] := by simp [putB]
theorem txt_cut : ∀ (xs acc : List Int) (p : Nat), txt ((putB xs).dropLast) acc p = ([], 0, 3)
  | [], acc, p => by
    show txt [0] acc p = _
    rw [txt_end rfl]
  | x :: xs, acc, p => by
    rw [putB_cons, List.dropLast_append_of_ne_nil (putB_ne xs)]
    unfold escI
    by_cases h : x = 0
    · rw [if_pos h]
      show txt (0 :: 255 :: (putB xs).dropLast) acc p = _
      rw [txt_esc rfl, if_neg (by omega), if_pos rfl, txt_cut xs]
    · rw [if_neg h]
      show txt (x :: (putB xs).dropLast) acc p = _
      rw [txt_ne h, txt_cut xs]
theorem getText_put (s : List UInt8) (b : List Int) : getText (putText s ++ b) = (s, (((putText s).length : Nat) : Int), 0) := by
  unfold getText putText
  rw [txt_put]
  simp [str_bytes]
theorem getText_cut (s : List UInt8) : (getText ((putText s).take ((putText s).length - 1))).2.2 = 3 := by
  rw [← List.dropLast_eq_take]
  unfold getText putText
  rw [txt_cut]
theorem numB_lay : ∀ (k : Nat) (n : Int), 0 ≤ n → n < 256 ^ k → n ≤ 18446744073709551615 → numB (layB n k) = n
  | 0, n, h1, h2, _ => by rw [Int.pow_zero] at h2; rw [show n = 0 by omega]; rfl
  | k + 1, n, h1, h2, h3 => by
    rw [Int.pow_succ] at h2
    have ih := numB_lay k (n / 256) (by omega) (Int.ediv_lt_of_lt_mul (by decide) h2) (by omega)
    unfold numB at ih ⊢
    rw [layB, List.foldl_append, ih]
    simp only [List.foldl_cons, List.foldl_nil]
    omega
theorem getInt_put {z : Int} (hz : -9223372036854775808 ≤ z ∧ z ≤ 9223372036854775807) (b : List Int) : getInt (putInt z ++ b) = (z, 8, 0) := by
  have hl : (putInt z).length = 8 := layB_len _ _
  unfold getInt
  rw [if_neg (by rw [List.length_append]; omega), List.take_left' hl]
  unfold putInt
  rw [numB_lay 8 _ (by omega) (by rw [p8]; omega) (by omega)]
  rw [show (z + 9223372036854775808 + 9223372036854775808) % 18446744073709551616 = z % 18446744073709551616 by omega]
  rw [IntKind.wrap_i64]
  rw [show (z % 18446744073709551616 + 9223372036854775808) % 18446744073709551616 - 9223372036854775808 = z by omega]
theorem lay_head {n : Int} (hn : 0 < n) (h : n ≤ 18446744073709551615) : ∃ c r w, widthN 8 n = w + 1 ∧ layB n (widthN 8 n) = c :: r ∧ ¬ c = 0 := by
  obtain ⟨w, hw, hl⟩ := widthN_lo 8 n hn (by rw [p8]; omega)
  have hh := widthN_hi 8 n (by omega) (by rw [p8]; omega)
  rw [hw, Int.pow_succ] at hh
  refine ⟨_, _, w, hw, by rw [hw, layB_top], ?_⟩
  have hp : (0 : Int) < 256 ^ w := Int.pow_pos (by decide)
  have h1 : 1 ≤ n / 256 ^ w := by rw [Int.le_ediv_iff_mul_le hp]; omega
  have h2 : n / 256 ^ w < 256 := Int.ediv_lt_of_lt_mul hp (by omega)
  omega
theorem getSmall_put {n : Int} (hn : 0 ≤ n ∧ n ≤ 18446744073709551615) (b : List Int) : getSmall (putSmall n ++ b) = (n, (((putSmall n).length : Nat) : Int), 0) := by
  have hw := widthN_le 8 n
  have hl : (layB n (widthN 8 n)).length = widthN 8 n := layB_len _ _
  have h0 : (putSmall n ++ b).getD 0 0 = ((widthN 8 n : Nat) : Int) := by unfold putSmall; simp
  have hlen : (putSmall n).length = widthN 8 n + 1 := by unfold putSmall; simp [hl]
  have h1 : ¬ (0 < ((widthN 8 n : Nat) : Int) ∧ (putSmall n ++ b).getD 1 0 = 0) := by
    intro ⟨p, q⟩
    have : 0 < n := by
      rcases Int.lt_or_le 0 n with h | h
      · exact h
      · rw [show n = 0 by omega, widthN_zero] at p; omega
    obtain ⟨c, r, w, e1, e2, e3⟩ := lay_head this hn.2
    unfold putSmall at q
    rw [e2] at q
    simp at q
    exact e3 q
  unfold getSmall
  rw [h0, if_neg (by rw [List.length_append]; omega), if_neg (by omega), if_neg (by rw [List.length_append]; omega), if_neg h1]
  rw [show (((widthN 8 n : Nat) : Int) + 1).toNat = (putSmall n).length by omega, List.take_left' rfl]
  have e : (putSmall n).drop 1 = layB n (widthN 8 n) := rfl
  rw [e, numB_lay _ _ hn.1 (widthN_hi 8 n hn.1 (by rw [p8]; omega)) hn.2, hlen]
  rfl
theorem getSmall_cut (n : Int) : (getSmall ((putSmall n).take ((putSmall n).length - 1))).2.2 = 3 := by
  have hw := widthN_le 8 n
  have hl : (layB n (widthN 8 n)).length = widthN 8 n := layB_len _ _
  have hlen : (putSmall n).length = widthN 8 n + 1 := by unfold putSmall; simp [hl]
  rw [hlen, Nat.add_sub_cancel]
  cases hk : widthN 8 n with
  | zero => simp [getSmall]
  | succ k =>
    have h0 : ((putSmall n).take (k + 1)).getD 0 0 = ((k + 1 : Nat) : Int) := by unfold putSmall; rw [hk]; simp
    have h1 : ((putSmall n).take (k + 1)).length = k + 1 := by rw [List.length_take]; omega
    unfold getSmall
    rw [h0, h1, if_neg (by omega), if_neg (by omega), if_pos (by omega)]
end Go.Proofs.Ytoedpnniaikfbaa
