import Derived.Test.YtoedpnniaikfbaaF8


set_option linter.unusedVariables false
set_option linter.unusedSimpArgs false
set_option maxRecDepth 8000
set_option maxHeartbeats 4000000
namespace Go.Proofs.Ytoedpnniaikfbaa
open Go.Eng
abbrev AskT : Ty := .pair (.int .u8) (.pair VerT (.int .i64))
abbrev Ask := Int × (Int × Int × Bool × List UInt8) × Int
def doS (s : Stk) (a : Ask) : Stk := if a.1 % 4 = 1 then commit s a.2.1.1 a.2.2 else if a.1 % 4 = 2 then abort s a.2.1.1 else if a.1 % 4 = 3 then prune s a.2.2 else write s a.2.1
def sDo : PSpec := ⟨[.d StT, .d AskT], [⟨true, [.d StT]⟩], fun x => List.length x.1.2 ≤ 100000, fun x => ((doS x.1 x.2.1, ()), ())⟩
theorem mod4 {k : Int} (h : 0 ≤ k ∧ k ≤ 255) : k.tmod 4 = k % 4 := Int.tmod_eq_emod_of_nonneg h.1
def mayA (a : Ask) : Bool := decide (a.2.1.2.2.2.length ≤ 24 ∧ (a.2.1.2.2.1 = true → a.2.1.2.2.2 = []) ∧ (0 ≤ a.2.1.1 ∧ a.2.1.1 ≤ 1099511627776) ∧ (0 ≤ a.2.2 ∧ a.2.2 ≤ 1099511627776))
def sMay : PSpec := ⟨[.d AskT], [⟨false, [.d .bool]⟩], fun _ => True, fun x => ((mayA x.1, ()), ())⟩
theorem do_ok {s : Stk} {a : Ask} (h : check s = 0) (ha : mayA a = true) : check (doS s a) = 0 := by
  obtain ⟨h1, h2, h3, h4⟩ := of_decide_eq_true ha
  unfold doS
  split
  · exact commit_ok h h4.2
  split
  · exact abort_ok h
  split
  · exact prune_ok h
  · exact write_ok h ⟨h1, h2, h3, by dsimp only; omega⟩
end Go.Proofs.Ytoedpnniaikfbaa
