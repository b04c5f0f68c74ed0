/- eqCall and eqCallS compare calls and lists of calls. Condition: at most 1048576 calls. -/
import Derived.Test.Ytcickfahpcmcdaa4c
import Derived.Deep.RegionWith
import Derived.Deep.RegionHeld3
namespace Go.Proofs.Ytcickfahpcmcdaa
open Go.RowKit
set_option linter.unusedSimpArgs false
set_option linter.unusedVariables false
theorem cl_ext {x y : Cl} (h1 : x.i = y.i) (h2 : x.o = y.o) (h3 : x.v = y.v) : x = y := by cases x; cases y; simp_all
end Go.Proofs.Ytcickfahpcmcdaa
