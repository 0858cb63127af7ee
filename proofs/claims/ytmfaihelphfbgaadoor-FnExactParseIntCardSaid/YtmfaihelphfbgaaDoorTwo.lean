/-
  Contracts of InRange, Mod, IsName, IsValue, IsAddr and of the generated toAddr, szAddr. Conditions: the bounds of Go integers and strings.
-/
import Derived.Test.YtmfaihelphfbgaaDoorOne
import Derived.Test.YtmfaihelphfbgaaDoorMem
import Derived.BigQuiet
import Derived.Deep.QuietTactic
import Derived.Outline
namespace Go.Proofs.YtmfaihelphfbgaaDoor
set_option linter.unusedVariables false
open Go.ChangeShapes Go.WideShapes Go.ChangeAt Go.RowKit
open Go.ChangeMaps (open_string shut_string)

theorem inRange_impl (n a b : Int) (w : World) : Calls Tryd.prog 34 #[.int .i64 n, .int .i64 a, .int .i64 b] w fun e w' => e = .returned (.bool (inR n a b)) ∧ w = w' := by
  by_cases h1 : a ≤ n
  · go_enter Tryd.func34, Tryd.ntmps34
    go_wp2
    go_ret
    exact ⟨ret_bool (inR_yes h1), rfl⟩
  · have h2 : n < a := by omega
    go_enter Tryd.func34, Tryd.ntmps34
    go_wp2
    go_ret
    exact ⟨ret_bool (inR_no h2), rfl⟩
theorem inRange_spec (n a b : Int) (w : World) : Calls Tryd.prog 37 #[.int .i64 n, .int .i64 a, .int .i64 b] w fun e w' => e = .returned (.bool (inR n a b)) ∧ w = w' := by
  by_cases h1 : a ≤ n
  · go_enter Tryd.func37, Tryd.ntmps37
    go_wp2
    go_ret
    exact ⟨ret_bool (inR_yes h1), rfl⟩
  · have h2 : n < a := by omega
    go_enter Tryd.func37, Tryd.ntmps37
    go_wp2
    go_ret
    exact ⟨ret_bool (inR_no h2), rfl⟩

theorem mod_impl (p q : Int) (_ : -9223372036854775808 ≤ p) (_ : p ≤ 9223372036854775807) (w : World) :
    Calls Tryd.prog 15 #[.int .i64 p, .int .i64 q] w fun e w' => e = .returned (.int .i64 (modZ p q)) ∧ w = w' := by
  cases hq : inR q 1 1000000000000
  · go_enter Tryd.func15, Tryd.ntmps15
    go_wp2_with (go_at_call 34; refine (inRange_impl _ _ _ _).mono ?_; rintro e w' ⟨rfl, rfl⟩)
    go_ret
    exact ⟨ret_int (modZ_no hq).symm, rfl⟩
  · obtain ⟨h1, h2⟩ := inR_true hq
    have hb := tmod_bounds p h1
    go_enter Tryd.func15, Tryd.ntmps15
    go_wp2_with (go_at_call 34; refine (inRange_impl _ _ _ _).mono ?_; rintro e w' ⟨rfl, rfl⟩)
    · go_ret
      have h3 : p.tmod q < 0 := by assumption
      exact ⟨ret_int (modZ_neg hq h1 h3), rfl⟩
    · go_ret
      have h3 : 0 ≤ p.tmod q := by assumption
      exact ⟨ret_int (modZ_pos hq h1 h3), rfl⟩

theorem isName_impl (s : ByteArray) (_ : s.size ≤ 9223372036854775807) (w : World) :
    Calls Tryd.prog 40 #[.string s] w fun e w' => e = .returned (.bool (nameB s)) ∧ w = w' := by
  go_enter Tryd.func40, Tryd.ntmps40
  go_wp2
  go_loop [3] (fun i => ∃ k : Nat, k ≤ s.size ∧ i = .int .i64 k ∧ Hid (allB lowB s k = true)) (fun i => s.size - (intOf i).toNat)
  case atStart => exact ⟨0, Nat.zero_le _, rfl, allB_zero _ _⟩
  case round =>
    obtain ⟨k, hk, rfl, hall⟩ := hrel
    by_cases hlt : k < s.size
    · cases hc : lowB s[k]
      · rcases lowB_no hc with h1 | ⟨h1, h2⟩
        all_goals
          go_wp2
          go_ret
          exact ⟨ret_bool (nameB_no hlt hc).symm, rfl⟩
      · obtain ⟨h1, h2⟩ := lowB_yes hc
        have hn : Hid (allB lowB s (k + 1) = true) := by rw [Hid, allB_succ _ _ _ hlt, hall.out, hc]; rfl
        clear hc hall
        go_wp2
        go_round
        case rel => exact ⟨k + 1, by omega, by go_num, hn⟩
        case measure => simp [intOf]; omega
    · obtain rfl : k = s.size := by omega
      go_wp2_with (go_at_call 34; refine (inRange_impl _ _ _ _).mono ?_; rintro e w' ⟨rfl, rfl⟩)
      go_ret
      exact ⟨ret_bool (nameB_end hall.out).symm, rfl⟩
theorem isName_spec (s : ByteArray) (_ : s.size ≤ 9223372036854775807) (w : World) :
    Calls Tryd.prog 36 #[.string s] w fun e w' => e = .returned (.bool (nameB s)) ∧ w = w' := by
  go_enter Tryd.func36, Tryd.ntmps36
  go_wp2
  go_loop [3] (fun i => ∃ k : Nat, k ≤ s.size ∧ i = .int .i64 k ∧ Hid (allB lowB s k = true)) (fun i => s.size - (intOf i).toNat)
  case atStart => exact ⟨0, Nat.zero_le _, rfl, allB_zero _ _⟩
  case round =>
    obtain ⟨k, hk, rfl, hall⟩ := hrel
    by_cases hlt : k < s.size
    · cases hc : lowB s[k]
      · rcases lowB_no hc with h1 | ⟨h1, h2⟩
        all_goals
          go_wp2
          go_ret
          exact ⟨ret_bool (nameB_no hlt hc).symm, rfl⟩
      · obtain ⟨h1, h2⟩ := lowB_yes hc
        have hn : Hid (allB lowB s (k + 1) = true) := by rw [Hid, allB_succ _ _ _ hlt, hall.out, hc]; rfl
        clear hc hall
        go_wp2
        go_round
        case rel => exact ⟨k + 1, by omega, by go_num, hn⟩
        case measure => simp [intOf]; omega
    · obtain rfl : k = s.size := by omega
      go_wp2_with (go_at_call 37; refine (inRange_spec _ _ _ _).mono ?_; rintro e w' ⟨rfl, rfl⟩)
      go_ret
      exact ⟨ret_bool (nameB_end hall.out).symm, rfl⟩
end Go.Proofs.YtmfaihelphfbgaaDoor
