/-
  Contracts of the generated helpers on slices of nodes: marks. Conditions: sizes of Go strings and slices, at most 2^30 elements.
-/
import Derived.Test.YtiifpdpejcbjnaaNd2
import Derived.Test.YtiifpdpejcbjnaaNmv
import Derived.Deep.RegionWith
import Derived.Deep.RegionHeld3
namespace Go.Proofs.Ytiifpdpejcbjnaa
set_option linter.unusedVariables false
set_option linter.unusedSimpArgs false
set_option maxRecDepth 100000
open Go.ChangeShapes Go.WideShapes Go.ChangeAt Go.RowKit Go.Deep

end Go.Proofs.Ytiifpdpejcbjnaa
