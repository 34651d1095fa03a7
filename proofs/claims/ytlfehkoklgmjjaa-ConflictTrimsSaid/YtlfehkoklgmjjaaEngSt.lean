import Derived.Test.YtlfehkoklgmjjaaEngPl
/- Strings' order; lists of strings that rise. -/
set_option linter.unusedVariables false
set_option linter.unusedSimpArgs false
namespace Go.Eng
theorem sless_eq : ∀ (x y : List UInt8), sless x y = decide (x < y)
  | [], [] => by simp [sless, Op.bytesLess]
  | _ :: _, [] => by simp [sless, Op.bytesLess]
  | [], _ :: _ => by simp [sless, Op.bytesLess]
  | a :: x, b :: y => by
    have ih := sless_eq x y
    unfold sless at ih ⊢
    rw [Op.bytesLess, ih]
    simp only [List.cons_lt_cons_iff]
    by_cases h1 : a < b <;> by_cases h2 : a = b <;> by_cases h3 : x < y <;> simp [h1, h2, h3]
theorem sless_iff {x y : List UInt8} : sless x y = true ↔ x < y := by rw [sless_eq, decide_eq_true_iff]
theorem slt_irrefl (x : List UInt8) : ¬ x < x := List.lt_irrefl x
theorem slt_trans {x y z : List UInt8} (h : x < y) (k : y < z) : x < z := List.lt_trans h k
theorem slt_total {x y : List UInt8} (h : ¬ x < y) (k : ¬ y < x) : x = y := List.le_antisymm (List.not_lt.1 k) (List.not_lt.1 h)
theorem slt_asymm {x y : List UInt8} (h : x < y) : ¬ y < x := fun k => slt_irrefl x (slt_trans h k)
theorem slt_of_le {x y z : List UInt8} (h : ¬ y < x) (k : y < z) : x < z := by
  by_cases hxy : x < y
  · exact slt_trans hxy k
  · rw [slt_total hxy h]; exact k
theorem sless_irrefl (x : List UInt8) : sless x x = false := by rw [sless_eq]; exact decide_eq_false (slt_irrefl x)
end Go.Eng
