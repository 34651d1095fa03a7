import Derived.Test.YtoedpnniaikfbaaA1


set_option linter.unusedVariables false
set_option linter.unusedSimpArgs false
namespace Go.Proofs.Ytoedpnniaikfbaa
open Go.Eng
abbrev PairT : Ty := .pair .str .str
abbrev Pr := List UInt8 × List UInt8
theorem bestL_ts (at' : Int) (xs : List Ver) : ∀ (n j : Nat), xs.length - j = n → 0 ≤ (bestL at' (xs.drop j) j).1 → (xs.getD (bestL at' (xs.drop j) j).1.toNat (0, 0, false, [])).2.1 = (bestL at' (xs.drop j) j).2
  | 0, j, hn, h => by rw [drop_end (by omega)] at h; simp [bestL] at h
  | n + 1, j, hn, h => by
    rw [drop_at (0, 0, false, []) (by omega : j < xs.length)] at h ⊢
    simp only [bestL] at h ⊢
    have ih := bestL_ts at' xs n (j + 1) (by omega)
    split
    · simp
    · rename_i h1; rw [if_neg h1] at h; exact ih h
theorem bestL_step {at' : Int} {xs : List Ver} {k : Nat} (h : k < xs.length) : (bestL at' (xs.drop k) k).1 = if 1 ≤ (xs.getD k (0, 0, false, [])).2.1 ∧ (xs.getD k (0, 0, false, [])).2.1 ≤ at' ∧ ((bestL at' (xs.drop (k + 1)) (k + 1)).1 < 0 ∨ (bestL at' (xs.drop (k + 1)) (k + 1)).2 < (xs.getD k (0, 0, false, [])).2.1) then (k : Int) else (bestL at' (xs.drop (k + 1)) (k + 1)).1 := by
  rw [drop_at (0, 0, false, []) h]
  simp only [bestL]
  split <;> simp_all
def sWhichR : PSpec := ⟨[.d StT, .d (.int .i64), .d (.int .i64)], [⟨false, [.d (.int .i64)]⟩], fun _ => True, fun x => ((which x.1 x.2.1 x.2.2.1, ()), ())⟩
end Go.Proofs.Ytoedpnniaikfbaa
