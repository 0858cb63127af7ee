/-
  Contracts of the generated helpers on structs of two strings and on slices of them: mark, look. Conditions: at most 2^30 elements, sizes of Go strings.
-/
import Derived.Test.YtmfaihelphfbgaaDoorMrk
import Derived.Test.YtmfaihelphfbgaaDoorAd1
import Derived.Deep.RegionWith
namespace Go.Proofs.YtmfaihelphfbgaaDoor
set_option linter.unusedVariables false
set_option linter.unusedSimpArgs false
set_option maxRecDepth 100000
open Go.ChangeShapes Go.WideShapes Go.ChangeAt Go.RowKit Go.Deep


end Go.Proofs.YtmfaihelphfbgaaDoor
