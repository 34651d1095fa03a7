import Derived.Test.YtoedpnniaikfbaaTab
import Derived.Test.YtoedpnniaikfbaaEng4
import Derived.Test.YtoedpnniaikfbaaEng3


set_option linter.unusedVariables false
set_option linter.unusedSimpArgs false
namespace Go.Proofs.Ytoedpnniaikfbaa
open Go.Eng
abbrev VerT : Ty := .pair (.int .i64) (.pair (.int .i64) (.pair .bool .str))
abbrev StT : Ty := .pair .str (.slice VerT)
abbrev Ver := Int × Int × Bool × List UInt8
abbrev Stk := List UInt8 × List Ver
/-- The last of the greatest times from 1 up to 'at': its place and its time. -/
def bestL (at' : Int) : List Ver → Nat → Int × Int
  | [], _ => (-1, 0)
  | v :: r, i => if 1 ≤ v.2.1 ∧ v.2.1 ≤ at' ∧ ((bestL at' r (i + 1)).1 < 0 ∨ (bestL at' r (i + 1)).2 < v.2.1) then ((i : Int), v.2.1) else bestL at' r (i + 1)
def pend (me : Int) (v : Ver) : Bool := decide (v.2.1 = 0 ∧ v.1 = me ∧ 0 ≤ me)
def which (s : Stk) (me at' : Int) : Int := if 0 ≤ idxF (pend me) s.2 0 then idxF (pend me) s.2 0 else (bestL at' s.2 0).1
/-- What the forward search ends with, that has 'best' (of time 'ts') and the rest before it. -/
def comb (me at' : Int) (best ts : Int) (r : List Ver) (i : Nat) : Int :=
  if 0 ≤ idxF (pend me) r i then idxF (pend me) r i else if (bestL at' r i).1 < 0 then best else if best < 0 ∨ ts ≤ (bestL at' r i).2 then (bestL at' r i).1 else best
theorem bestL_pos (at' : Int) : ∀ (l : List Ver) (i : Nat), ((bestL at' l i).1 = -1 ∧ (bestL at' l i).2 = 0) ∨ (i ≤ (bestL at' l i).1 ∧ (bestL at' l i).1 < i + l.length ∧ 1 ≤ (bestL at' l i).2)
  | [], i => .inl ⟨rfl, rfl⟩
  | x :: r, i => by
    unfold bestL
    have := bestL_pos at' r (i + 1)
    simp only [List.length_cons]
    split
    · right; simp only; omega
    · omega
theorem which_comb (s : Stk) (me at' : Int) : which s me at' = comb me at' (-1) 0 s.2 0 := by
  unfold which comb
  have := bestL_pos at' s.2 0
  split
  · rfl
  · split
    · omega
    · simp
theorem comb_hit {me at' best ts : Int} {v : Ver} {r : List Ver} {i : Nat} (h1 : v.2.1 = 0) (h2 : v.1 = me) (h3 : 0 ≤ me) : comb me at' best ts (v :: r) i = i := by
  have : pend me v = true := by simp only [pend, decide_eq_true_eq]; exact ⟨h1, h2, h3⟩
  simp only [comb, idxF, this, if_true]
  rw [if_pos (by omega)]
theorem comb_step {me at' best ts : Int} {v : Ver} {r : List Ver} {i : Nat} (h : ¬ (v.2.1 = 0 ∧ v.1 = me ∧ 0 ≤ me)) :
    comb me at' best ts (v :: r) i = if 1 ≤ v.2.1 ∧ v.2.1 ≤ at' ∧ (best < 0 ∨ ts ≤ v.2.1) then comb me at' i v.2.1 r (i + 1) else comb me at' best ts r (i + 1) := by
  have hp : pend me v = false := by
    simp only [pend, h, decide_false]
  have hq := bestL_pos at' r (i + 1)
  simp only [comb, idxF, bestL, hp, Bool.false_eq_true, if_false]
  repeat' split
  all_goals (try simp only [] at *)
  all_goals omega
theorem comb_nil {me at' best ts : Int} {i : Nat} : comb me at' best ts [] i = best := rfl
def sWhich : PSpec := ⟨[.d StT, .d (.int .i64), .d (.int .i64)], [⟨false, [.d (.int .i64)]⟩], fun _ => True, fun x => ((which x.1 x.2.1 x.2.2.1, ()), ())⟩
end Go.Proofs.Ytoedpnniaikfbaa
