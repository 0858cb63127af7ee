/-
  Contracts of the generated helpers on structs of two strings and on slices of them: compare, copy. Conditions: at most 2^30 elements, sizes of Go strings.
-/
import Derived.Test.YtpehaoamfifgbaaMrk
import Derived.Deep.RegionWith
namespace Go.Proofs.Ytpehaoamfifgbaa
set_option linter.unusedVariables false
set_option linter.unusedSimpArgs false
set_option maxRecDepth 100000
open Go.ChangeShapes Go.WideShapes Go.ChangeAt Go.RowKit Go.Deep

theorem info_Addr : (Try.prog.info? 25).map (fun i => (i.zero, i.size, i.bytes)) = some (some (.agg #[.string ⟨#[]⟩, .string ⟨#[]⟩]), 2, 32) := by kernel_rfl
theorem row_Addr : RowT Try.prog 33 25 2 32 := RowT.mk' Try.underlying33 info_Addr rfl (by omega)

end Go.Proofs.Ytpehaoamfifgbaa
