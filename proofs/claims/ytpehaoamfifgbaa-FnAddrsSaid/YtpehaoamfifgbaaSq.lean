/-
  CompareAddrs of the program, with the world behind it; the order of pairs as the library's sort asks it. No condition.
-/
import Derived.Test.YtpehaoamfifgbaaSp
import Derived.Sort.Grow
namespace Go.Proofs.Ytpehaoamfifgbaa
set_option linter.unusedVariables false
set_option linter.unusedSimpArgs false
set_option maxRecDepth 100000
open Go.ChangeShapes Go.WideShapes Go.ChangeAt Go.RowKit Go.Deep

set_option maxHeartbeats 400000 in
theorem compareAddrs_grow (a b : S2) (w : World) : Calls Try.prog 14 #[.agg #[.string a.1, .string a.2], .agg #[.string b.1, .string b.2]] w fun e w' =>
    e = .returned (.int .i64 (cmpA a b)) ∧ w' = (w.alloc (.cells #[.string a.1, .string a.2] 25)).alloc (.cells #[.string b.1, .string b.2] 25) := by
  by_cases h : cmpS a.1 b.1 = 0
  · have e0 : Hid (cmpS a.2 b.2 = cmpA a b) := by show _ = _; rw [cmpA, if_pos h]
    go_enter Try.func14, Try.ntmps14
    go_wp2_with (go_at_call 38; refine (compare_any _ _ _).mono ?_; rintro e w' ⟨rfl, rfl⟩)
    all_goals
      go_ret
      exact ⟨ret_int e0.out, rfl⟩
  · have e0 : Hid (cmpS a.1 b.1 = cmpA a b) := by show _ = _; rw [cmpA, if_neg h]
    go_enter Try.func14, Try.ntmps14
    go_wp2_with (go_at_call 38; refine (compare_any _ _ _).mono ?_; rintro e w' ⟨rfl, rfl⟩)
    all_goals
      go_ret
      exact ⟨ret_int e0.out, rfl⟩
end Go.Proofs.Ytpehaoamfifgbaa
