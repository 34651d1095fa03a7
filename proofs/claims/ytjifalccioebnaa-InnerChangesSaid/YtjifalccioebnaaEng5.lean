import Derived.Test.YtjifalccioebnaaEng4
import Derived.Shelf.Sort.Plain
import Derived.Shelf.Slices.In.SortNone
import Derived.Sort.AssemblyPlain
/- Texts, one behind the other. -/
set_option linter.unusedVariables false
set_option linter.unusedSimpArgs false
namespace Go.Eng
open Go.RowKit (Below)
open Go.Sort (putRow grow Holds putCells mapBlock onCells)
section
variable {C : Cx} {w w' : World} {g g' : Gh} {h : Heap}
end
end Go.Eng
