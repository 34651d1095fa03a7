import Derived.Test.YtoedpnniaikfbaaB5



set_option linter.unusedVariables false
set_option linter.unusedSimpArgs false
namespace Go.Proofs.Ytoedpnniaikfbaa
open Go.Eng
def sCompare : PSpec := sCompareB
def sAwake01 : PSpec := ⟨[], [⟨false, [.d .bool]⟩], fun _ => True, fun _ => ((true, ()), ())⟩
end Go.Proofs.Ytoedpnniaikfbaa
