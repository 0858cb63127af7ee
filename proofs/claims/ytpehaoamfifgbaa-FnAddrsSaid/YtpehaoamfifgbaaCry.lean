/-
  Contracts of the encoding and hashing functions, of the program and of the reference. Conditions: lengths at most 2^40, integers of 64 bits.
-/
import Derived.Test.YtpehaoamfifgbaaByt
import Derived.Test.YtpehaoamfifgbaaPla
namespace Go.Proofs.Ytpehaoamfifgbaa
set_option linter.unusedVariables false
set_option maxRecDepth 100000
open Go.ChangeShapes Go.WideShapes Go.ChangeAt Go.RowKit Go.Deep

theorem row_u8 : RowT Try.prog 22 5 1 1 := RowT.mk' Try.underlying22 info_u8 rfl (by omega)




end Go.Proofs.Ytpehaoamfifgbaa
