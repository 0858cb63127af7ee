/-
  Contracts of the encoding and hashing functions, of the program and of the reference. Conditions: lengths at most 2^40, integers of 64 bits.
-/
import Derived.Test.YtmfaihelphfbgaaDoorByt
import Derived.Test.YtmfaihelphfbgaaDoorPla
namespace Go.Proofs.YtmfaihelphfbgaaDoor
set_option linter.unusedVariables false
set_option maxRecDepth 100000
open Go.ChangeShapes Go.WideShapes Go.ChangeAt Go.RowKit Go.Deep

theorem row_u8 : RowT Tryd.prog 22 5 1 1 := RowT.mk' Tryd.underlying22 info_u8 rfl (by omega)
theorem row_i64 : RowT Tryd.prog 73 3 1 8 := RowT.mk' Tryd.underlying73 info_i64 rfl (by omega)




end Go.Proofs.YtmfaihelphfbgaaDoor
