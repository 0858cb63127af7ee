/-
  Contracts of functions that compute with integers and strings. No condition beyond the size of a Go string.
-/
import Derived.Test.YtmfaihelphfbgaaDoorRows
import Derived.Test.YtmfaihelphfbgaaDoorLib
namespace Go.Proofs.YtmfaihelphfbgaaDoor
set_option linter.unusedVariables false
open Go.ChangeShapes Go.WideShapes Go.ChangeAt Go.RowKit
open Go.ChangeMaps (open_string shut_string)

theorem own : ownKnob Tryd.prog.godebug = none := by kernel_rfl
theorem laidOut : laidOutB Tryd.prog = true := by kernel_rfl

end Go.Proofs.YtmfaihelphfbgaaDoor
