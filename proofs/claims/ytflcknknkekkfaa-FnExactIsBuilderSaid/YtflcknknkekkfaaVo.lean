/-
  Contracts of IsVoid of the program and of the reference. No condition.
-/
import Derived.Test.YtflcknknkekkfaaCmp
import Derived.Test.YtflcknknkekkfaaAt
namespace Go.Proofs.Ytflcknknkekkfaa
set_option linter.unusedVariables false
set_option linter.unusedSimpArgs false
set_option maxRecDepth 100000
open Go.ChangeShapes Go.WideShapes Go.ChangeAt Go.RowKit Go.Deep

theorem str_lit_eq {a : ByteArray} (l : List UInt8) : (a.toList == l) = decide (a = ⟨l.toArray⟩) := by
  have := toList_eq_iff (a := a) (b := ⟨l.toArray⟩)
  rw [Lib.toList_data ⟨l.toArray⟩] at this
  simpa using this
theorem voidB_eq (s : ByteArray) : voidB s = (s.toList == [105, 109, 103] || s.toList == [108, 105, 110, 107]) := by
  rw [str_lit_eq, str_lit_eq]; rfl
theorem isVoid_impl (s : ByteArray) (w : World) : Calls Try.prog 51 #[.string s] w fun e w' => e = .returned (.bool (voidB s)) ∧ w' = w := by
  rw [voidB_eq]
  go_enter Try.func51, Try.ntmps51
  go_wp2
  all_goals go_ret
  all_goals refine ⟨?_, rfl⟩
  all_goals first | rfl | (rename_i h; simp [h])
theorem isVoid_spec (s : ByteArray) (w : World) : Calls Try.prog 87 #[.string s] w fun e w' => e = .returned (.bool (voidB s)) ∧ w' = w := by
  rw [voidB_eq]
  go_enter Try.func87, Try.ntmps87
  go_wp2
  all_goals go_ret
  all_goals refine ⟨?_, rfl⟩
  all_goals first | rfl | (rename_i h; simp [h])
end Go.Proofs.Ytflcknknkekkfaa
