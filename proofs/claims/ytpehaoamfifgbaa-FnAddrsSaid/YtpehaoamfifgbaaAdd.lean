/-
  Contracts of CompareAddrs, FormatAddr, HasAddr, ParseAddr, of the program and of the reference. Conditions: sizes of Go strings, at most 2^30 elements.
-/
import Derived.Test.YtpehaoamfifgbaaAds
import Derived.Test.YtpehaoamfifgbaaStd
import Derived.Laws.StructEq
import Derived.WalkLawsBesides
namespace Go.Proofs.Ytpehaoamfifgbaa
set_option linter.unusedVariables false
set_option linter.unusedSimpArgs false
set_option maxRecDepth 100000
open Go.ChangeShapes Go.WideShapes Go.ChangeAt Go.RowKit Go.Deep

theorem eqIn_Addr (a b : S2) (w : World) : (Op.equalIn 10000 25 (.agg #[.string a.1, .string a.2]) (.agg #[.string b.1, .string b.2])).run Try.prog w = .ok (s2eq a b) w := by
  have u3 := Try.underlying9
  have a3 := Try.isAgg9
  have z3 := Try.sizeOf9
  have hS : Try.prog.underlying 25 = some (.struct (Try.prog.fieldsOf 25)) := by kernel_rfl
  have hp : Try.prog.stoodInHeld 25 = false := by kernel_rfl
  rw [show (10000 : Nat) = 9999 + 1 from rfl, run_equalIn_agg w 9999 25 _ _ hS hp]
  simp only [Program.fieldsOf, Try.underlying25]
  go_simp
  unfold s2eq
  by_cases h1 : a.1.toList = b.1.toList <;> by_cases h2 : a.2.toList = b.2.toList <;> simp [h1, h2]
theorem guard_Addr : Try.prog.eqGuardType Try.prog.depth 25 = false := by kernel_rfl

set_option maxHeartbeats 400000 in
theorem compareAddrs_impl (a b : S2) (w : World) : Calls Try.prog 14 #[.agg #[.string a.1, .string a.2], .agg #[.string b.1, .string b.2]] w fun e w' => e = .returned (.int .i64 (cmpA a b)) ∧ Below w.heap.size w w' := by
  have hb := ((Below.refl w.heap.size w).alloc (Nat.le_refl _) (.cells #[.string a.1, .string a.2] 25)).alloc (by simp) (.cells #[.string b.1, .string b.2] 25)
  by_cases h : cmpS a.1 b.1 = 0
  · have e0 : Hid (cmpS a.2 b.2 = cmpA a b) := by show _ = _; rw [cmpA, if_pos h]
    go_enter Try.func14, Try.ntmps14
    go_wp2_with (go_at_call 38; refine (compare_any _ _ _).mono ?_; rintro e w' ⟨rfl, rfl⟩)
    all_goals
      go_ret
      exact ⟨ret_int e0.out, hb⟩
  · have e0 : Hid (cmpS a.1 b.1 = cmpA a b) := by show _ = _; rw [cmpA, if_neg h]
    go_enter Try.func14, Try.ntmps14
    go_wp2_with (go_at_call 38; refine (compare_any _ _ _).mono ?_; rintro e w' ⟨rfl, rfl⟩)
    all_goals
      go_ret
      exact ⟨ret_int e0.out, hb⟩

end Go.Proofs.Ytpehaoamfifgbaa
