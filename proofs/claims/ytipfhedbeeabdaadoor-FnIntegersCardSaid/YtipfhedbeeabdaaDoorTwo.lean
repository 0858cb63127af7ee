/-
  Contracts of InRange, Mod, IsName, IsValue, IsAddr and of the generated toAddr, szAddr. Conditions: the bounds of Go integers and strings.
-/
import Derived.Test.YtipfhedbeeabdaaDoorOne
import Derived.Test.YtipfhedbeeabdaaDoorMem
import Derived.BigQuiet
import Derived.Deep.QuietTactic
import Derived.Outline
namespace Go.Proofs.YtipfhedbeeabdaaDoor
set_option linter.unusedVariables false
open Go.ChangeShapes Go.WideShapes Go.ChangeAt Go.RowKit
open Go.ChangeMaps (open_string shut_string)

theorem inRange_impl (n a b : Int) (w : World) : Calls Tryd.prog 23 #[.int .i64 n, .int .i64 a, .int .i64 b] w fun e w' => e = .returned (.bool (inR n a b)) ∧ w = w' := by
  by_cases h1 : a ≤ n
  · go_enter Tryd.func23, Tryd.ntmps23
    go_wp2
    go_ret
    exact ⟨ret_bool (inR_yes h1), rfl⟩
  · have h2 : n < a := by omega
    go_enter Tryd.func23, Tryd.ntmps23
    go_wp2
    go_ret
    exact ⟨ret_bool (inR_no h2), rfl⟩
theorem inRange_spec (n a b : Int) (w : World) : Calls Tryd.prog 24 #[.int .i64 n, .int .i64 a, .int .i64 b] w fun e w' => e = .returned (.bool (inR n a b)) ∧ w = w' := by
  by_cases h1 : a ≤ n
  · go_enter Tryd.func24, Tryd.ntmps24
    go_wp2
    go_ret
    exact ⟨ret_bool (inR_yes h1), rfl⟩
  · have h2 : n < a := by omega
    go_enter Tryd.func24, Tryd.ntmps24
    go_wp2
    go_ret
    exact ⟨ret_bool (inR_no h2), rfl⟩

theorem mod_impl (p q : Int) (_ : -9223372036854775808 ≤ p) (_ : p ≤ 9223372036854775807) (w : World) :
    Calls Tryd.prog 13 #[.int .i64 p, .int .i64 q] w fun e w' => e = .returned (.int .i64 (modZ p q)) ∧ w = w' := by
  cases hq : inR q 1 1000000000000
  · go_enter Tryd.func13, Tryd.ntmps13
    go_wp2_with (go_at_call 23; refine (inRange_impl _ _ _ _).mono ?_; rintro e w' ⟨rfl, rfl⟩)
    go_ret
    exact ⟨ret_int (modZ_no hq).symm, rfl⟩
  · obtain ⟨h1, h2⟩ := inR_true hq
    have hb := tmod_bounds p h1
    go_enter Tryd.func13, Tryd.ntmps13
    go_wp2_with (go_at_call 23; refine (inRange_impl _ _ _ _).mono ?_; rintro e w' ⟨rfl, rfl⟩)
    · go_ret
      have h3 : p.tmod q < 0 := by assumption
      exact ⟨ret_int (modZ_neg hq h1 h3), rfl⟩
    · go_ret
      have h3 : 0 ≤ p.tmod q := by assumption
      exact ⟨ret_int (modZ_pos hq h1 h3), rfl⟩

end Go.Proofs.YtipfhedbeeabdaaDoor
