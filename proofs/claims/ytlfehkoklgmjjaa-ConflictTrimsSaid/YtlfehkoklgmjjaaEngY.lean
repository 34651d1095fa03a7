import Derived.Test.YtlfehkoklgmjjaaEngX
/- Plain laws on numbers of a kind, on bits. -/
set_option linter.unusedVariables false
set_option linter.unusedSimpArgs false
namespace Go.Eng
theorem wrapU64 (n : Int) : IntKind.u64.wrap n = n % 18446744073709551616 := by
  simp [IntKind.wrap, IntKind.bits, IntKind.signed]
theorem wrapU32 (n : Int) : IntKind.u32.wrap n = n % 4294967296 := by
  simp [IntKind.wrap, IntKind.bits, IntKind.signed]
theorem wrapU8 (n : Int) : IntKind.u8.wrap n = n % 256 := by
  simp [IntKind.wrap, IntKind.bits, IntKind.signed]
theorem toNat64 {m : Nat} (h : m < 18446744073709551616) : (BitVec.ofInt 64 ((m : Nat) : Int)).toNat = m := by
  rw [BitVec.toNat_ofInt]
  have : (2 : Int) ^ 64 = 18446744073709551616 := by decide
  omega
theorem ibits_or {a b : Nat} (ha : a < 18446744073709551616) (hb : b < 18446744073709551616) : ibits .or .u64 (a : Int) (b : Int) = ((a ||| b : Nat) : Int) := by
  show IntKind.u64.wrap (((BitVec.ofInt 64 (a : Int) ||| BitVec.ofInt 64 (b : Int)).toNat : Nat) : Int) = _
  rw [BitVec.toNat_or, toNat64 ha, toNat64 hb, wrapU64]
  have : a ||| b < 2 ^ 64 := Nat.or_lt_two_pow (n := 64) (by simpa using ha) (by simpa using hb)
  omega
theorem ibits_xor {a b : Nat} (ha : a < 18446744073709551616) (hb : b < 18446744073709551616) : ibits .xor .u64 (a : Int) (b : Int) = ((a ^^^ b : Nat) : Int) := by
  show IntKind.u64.wrap (((BitVec.ofInt 64 (a : Int) ^^^ BitVec.ofInt 64 (b : Int)).toNat : Nat) : Int) = _
  rw [BitVec.toNat_xor, toNat64 ha, toNat64 hb, wrapU64]
  have : a ^^^ b < 2 ^ 64 := Nat.xor_lt_two_pow (n := 64) (by simpa using ha) (by simpa using hb)
  omega
theorem or_byte {n c : Int} (hc : 0 ≤ c ∧ c ≤ 255) : ibits .or .u64 (IntKind.u64.wrap (n * 2 ^ min (Int.toNat 8) IntKind.u64.bits)) (IntKind.u64.wrap c) = (n * 256 + c) % 18446744073709551616 := by
  obtain ⟨c, rfl⟩ := Int.eq_ofNat_of_zero_le hc.1
  have hm := Int.emod_nonneg n (show (72057594037927936 : Int) ≠ 0 by decide)
  have hm2 := Int.emod_lt_of_pos n (show (0 : Int) < 72057594037927936 by decide)
  obtain ⟨m, hm0⟩ := Int.eq_ofNat_of_zero_le hm
  have hw : IntKind.u64.wrap (n * 2 ^ min (Int.toNat 8) IntKind.u64.bits) = ((m * 256 : Nat) : Int) := by
    rw [wrapU64, show (2 : Int) ^ min (Int.toNat 8) IntKind.u64.bits = 256 by decide]
    omega
  have hv : IntKind.u64.wrap (c : Int) = ((c : Nat) : Int) := by rw [wrapU64]; omega
  rw [hw, hv, ibits_or (by omega) (by omega)]
  have e3 : m * 256 ||| c = m * 256 + c := by
    have := Nat.two_pow_add_eq_or_of_lt (i := 8) (b := c) (by omega) m
    rw [Nat.mul_comm] at this
    exact this.symm
  rw [e3]
  omega
theorem xor_top {a : Int} (ha : 0 ≤ a ∧ a ≤ 18446744073709551615) : ibits .xor .u64 a 9223372036854775808 = (a + 9223372036854775808) % 18446744073709551616 := by
  obtain ⟨a, rfl⟩ := Int.eq_ofNat_of_zero_le ha.1
  have h2 : (9223372036854775808 : Int) = ((9223372036854775808 : Nat) : Int) := rfl
  rw [h2, ibits_xor (by omega) (by omega)]
  have key : a ^^^ 9223372036854775808 = (a + 9223372036854775808) % 18446744073709551616 := by
    apply Nat.eq_of_testBit_eq
    intro i
    rw [Nat.testBit_xor, show 9223372036854775808 = 2 ^ 63 from rfl, show 18446744073709551616 = 2 ^ 64 from rfl, Nat.testBit_mod_two_pow, Nat.add_comm, Nat.testBit_two_pow]
    by_cases h : i = 63
    · subst h
      rw [Nat.testBit_two_pow_add_eq]
      cases a.testBit 63 <;> rfl
    · have h1 : ¬ 63 = i := fun e => h e.symm
      by_cases h3 : i < 63
      · rw [Nat.testBit_two_pow_add_gt h3]
        have h4 : i < 64 := by omega
        simp only [h1, h4, decide_false, decide_true, Bool.xor_false, Bool.true_and]
      · have h64 : a.testBit i = false := Nat.testBit_lt_two_pow (Nat.lt_of_lt_of_le (show a < 2 ^ 64 by omega) (Nat.pow_le_pow_right (by decide) (by omega)))
        have h4 : ¬ i < 64 := by omega
        simp only [h64, h1, h4, decide_false, Bool.xor_false, Bool.false_and]
  rw [key]
  omega


theorem shr8 (n : Int) {i : Nat} (hi : i < 8) : n.fdiv (2 ^ min (8 * (i : Int)).toNat IntKind.u64.bits) = n / 256 ^ i := by
  have h1 : min (8 * (i : Int)).toNat IntKind.u64.bits = 8 * i := by simp only [IntKind.bits]; omega
  rw [h1, Int.pow_mul]
  exact Int.fdiv_eq_ediv_of_nonneg _ (Int.le_of_lt (Int.pow_pos (by decide)))
theorem shrB (m : Int) : m.fdiv (2 ^ min (Int.toNat 8) IntKind.u64.bits) = m / 256 := by
  rw [show (2 : Int) ^ min (Int.toNat 8) IntKind.u64.bits = 256 by decide]
  exact Int.fdiv_eq_ediv_of_nonneg _ (by decide)
theorem tmodP {m k : Int} (h : 0 ≤ m) : m.tmod k = m % k := Int.tmod_eq_emod_of_nonneg h
theorem tdivP {m k : Int} (h : 0 ≤ m) : m.tdiv k = m / k := Int.tdiv_eq_ediv_of_nonneg h
theorem div256_bd {n : Int} (hn : 0 ≤ n ∧ n ≤ 18446744073709551615) (i : Nat) : 0 ≤ n / 256 ^ i ∧ n / 256 ^ i ≤ 18446744073709551615 := by
  have hp : (0 : Int) < 256 ^ i := Int.pow_pos (by decide)
  refine ⟨Int.ediv_nonneg hn.1 (Int.le_of_lt hp), Int.le_trans (Int.ediv_le_self _ hn.1) hn.2⟩
end Go.Eng
