import Derived.Test.YtoedpnniaikfbaaB6



set_option linter.unusedVariables false
set_option linter.unusedSimpArgs false
namespace Go.Proofs.Ytoedpnniaikfbaa
open Go.Eng
def sOrdkeyInts : PSpec := lawSpec [.int .i64, BT]
def sOrdkeySmalls : PSpec := lawSpec [.int .u64, BT]
def sOrdkeyTexts : PSpec := lawSpec [.str, BT]
end Go.Proofs.Ytoedpnniaikfbaa
