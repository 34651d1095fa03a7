import Derived.Test.YtoedpnniaikfbaaF3



set_option linter.unusedVariables false
set_option linter.unusedSimpArgs false
set_option maxRecDepth 8000
set_option maxHeartbeats 4000000
namespace Go.Proofs.Ytoedpnniaikfbaa
open Go.Eng
theorem wrapu {n : Int} (h : 0 ≤ n ∧ n ≤ 1099511627776) : IntKind.u64.wrap n = n := by rw [wrapU64]; omega
def putR11 (s : Stk) : List Int × Int := if check s = 0 then (putS s, 0) else ([], check s)
def sSPut : PSpec := ⟨[.d StT], [⟨false, [.d BT]⟩, ⟨false, [.d (.int .i64)]⟩], fun _ => True, fun x => (((putR11 x.1).1, ()), ((putR11 x.1).2, ()), ())⟩
theorem retB {u v : List Int × Int} (h : u = v) : (some ((u.1, ()), (u.2, ()), ()) : Option ((List Int × Unit) × (Int × Unit) × Unit)) = some ((v.1, ()), (v.2, ()), ()) := by rw [h]
end Go.Proofs.Ytoedpnniaikfbaa
