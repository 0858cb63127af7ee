/-
  Contracts of InRange, Mod, IsName, IsValue, IsAddr and of the generated toAddr, szAddr. Conditions: the bounds of Go integers and strings.
-/
import Derived.Test.YtkmechjilekcmaaDoorOne
import Derived.Test.YtkmechjilekcmaaDoorMem
import Derived.BigQuiet
import Derived.Deep.QuietTactic
import Derived.Outline
namespace Go.Proofs.YtkmechjilekcmaaDoor
set_option linter.unusedVariables false
open Go.ChangeShapes Go.WideShapes Go.ChangeAt Go.RowKit
open Go.ChangeMaps (open_string shut_string)

theorem inRange_impl (n a b : Int) (w : World) : Calls Tryd.prog 47 #[.int .i64 n, .int .i64 a, .int .i64 b] w fun e w' => e = .returned (.bool (inR n a b)) ∧ w = w' := by
  by_cases h1 : a ≤ n
  · go_enter Tryd.func47, Tryd.ntmps47
    go_wp2
    go_ret
    exact ⟨ret_bool (inR_yes h1), rfl⟩
  · have h2 : n < a := by omega
    go_enter Tryd.func47, Tryd.ntmps47
    go_wp2
    go_ret
    exact ⟨ret_bool (inR_no h2), rfl⟩
theorem inRange_spec (n a b : Int) (w : World) : Calls Tryd.prog 48 #[.int .i64 n, .int .i64 a, .int .i64 b] w fun e w' => e = .returned (.bool (inR n a b)) ∧ w = w' := by
  by_cases h1 : a ≤ n
  · go_enter Tryd.func48, Tryd.ntmps48
    go_wp2
    go_ret
    exact ⟨ret_bool (inR_yes h1), rfl⟩
  · have h2 : n < a := by omega
    go_enter Tryd.func48, Tryd.ntmps48
    go_wp2
    go_ret
    exact ⟨ret_bool (inR_no h2), rfl⟩


theorem isName_impl (s : ByteArray) (_ : s.size ≤ 9223372036854775807) (w : World) :
    Calls Tryd.prog 36 #[.string s] w fun e w' => e = .returned (.bool (nameB s)) ∧ w = w' := by
  go_enter Tryd.func36, Tryd.ntmps36
  go_wp2
  go_loop [3] (fun i => ∃ k : Nat, k ≤ s.size ∧ i = .int .i64 k ∧ Hid (allB lowB s k = true)) (fun i => s.size - (intOf i).toNat)
  case atStart => exact ⟨0, Nat.zero_le _, rfl, allB_zero _ _⟩
  case round =>
    obtain ⟨k, hk, rfl, hall⟩ := hrel
    by_cases hlt : k < s.size
    · cases hc : lowB s[k]
      · rcases lowB_no hc with h1 | ⟨h1, h2⟩
        all_goals
          go_wp2
          go_ret
          exact ⟨ret_bool (nameB_no hlt hc).symm, rfl⟩
      · obtain ⟨h1, h2⟩ := lowB_yes hc
        have hn : Hid (allB lowB s (k + 1) = true) := by rw [Hid, allB_succ _ _ _ hlt, hall.out, hc]; rfl
        clear hc hall
        go_wp2
        go_round
        case rel => exact ⟨k + 1, by omega, by go_num, hn⟩
        case measure => simp [intOf]; omega
    · obtain rfl : k = s.size := by omega
      go_wp2_with (go_at_call 47; refine (inRange_impl _ _ _ _).mono ?_; rintro e w' ⟨rfl, rfl⟩)
      go_ret
      exact ⟨ret_bool (nameB_end hall.out).symm, rfl⟩
theorem isName_spec (s : ByteArray) (_ : s.size ≤ 9223372036854775807) (w : World) :
    Calls Tryd.prog 32 #[.string s] w fun e w' => e = .returned (.bool (nameB s)) ∧ w = w' := by
  go_enter Tryd.func32, Tryd.ntmps32
  go_wp2
  go_loop [3] (fun i => ∃ k : Nat, k ≤ s.size ∧ i = .int .i64 k ∧ Hid (allB lowB s k = true)) (fun i => s.size - (intOf i).toNat)
  case atStart => exact ⟨0, Nat.zero_le _, rfl, allB_zero _ _⟩
  case round =>
    obtain ⟨k, hk, rfl, hall⟩ := hrel
    by_cases hlt : k < s.size
    · cases hc : lowB s[k]
      · rcases lowB_no hc with h1 | ⟨h1, h2⟩
        all_goals
          go_wp2
          go_ret
          exact ⟨ret_bool (nameB_no hlt hc).symm, rfl⟩
      · obtain ⟨h1, h2⟩ := lowB_yes hc
        have hn : Hid (allB lowB s (k + 1) = true) := by rw [Hid, allB_succ _ _ _ hlt, hall.out, hc]; rfl
        clear hc hall
        go_wp2
        go_round
        case rel => exact ⟨k + 1, by omega, by go_num, hn⟩
        case measure => simp [intOf]; omega
    · obtain rfl : k = s.size := by omega
      go_wp2_with (go_at_call 48; refine (inRange_spec _ _ _ _).mono ?_; rintro e w' ⟨rfl, rfl⟩)
      go_ret
      exact ⟨ret_bool (nameB_end hall.out).symm, rfl⟩
theorem isValue_impl (s : ByteArray) (_ : s.size ≤ 9223372036854775807) (w : World) :
    Calls Tryd.prog 18 #[.string s] w fun e w' => e = .returned (.bool (valueB s)) ∧ w = w' := by
  go_enter Tryd.func18, Tryd.ntmps18
  go_wp2
  go_loop [3] (fun i => ∃ k : Nat, k ≤ s.size ∧ i = .int .i64 k ∧ Hid (allB valB s k = true)) (fun i => s.size - (intOf i).toNat)
  case atStart => exact ⟨0, Nat.zero_le _, rfl, allB_zero _ _⟩
  case round =>
    obtain ⟨k, hk, rfl, hall⟩ := hrel
    by_cases hlt : k < s.size
    · rcases valB_cases s[k] with ⟨hc, h⟩ | ⟨hc, h⟩
      · have hn : Hid (allB valB s (k + 1) = true) := by rw [Hid, allB_succ _ _ _ hlt, hall.out, hc]; rfl
        clear hc hall
        rcases h with ⟨h1, h2⟩ | ⟨h1, h2⟩ | h1
        all_goals
          go_wp2
          go_round
          case rel => exact ⟨k + 1, by omega, by go_num, hn⟩
          case measure => simp [intOf]; omega
      · rcases h with h1 | ⟨h1, h2⟩ | ⟨h1, h2⟩ | h1
        · go_wp2
          all_goals first | (go_ret; exact ⟨ret_bool (valB_no hlt hc).symm, rfl⟩) | (exfalso; rename_i h; simp at h; omega)
        · exact h2.elim
        · go_wp2
          all_goals first | (go_ret; exact ⟨ret_bool (valB_no hlt hc).symm, rfl⟩) | (exfalso; rename_i h; simp at h; omega)
        · go_wp2
          all_goals first | (go_ret; exact ⟨ret_bool (valB_no hlt hc).symm, rfl⟩) | (exfalso; rename_i h; simp at h; omega)
    · obtain rfl : k = s.size := by omega
      go_wp2_with (go_at_call 47; refine (inRange_impl _ _ _ _).mono ?_; rintro e w' ⟨rfl, rfl⟩)
      go_ret
      exact ⟨ret_bool (valueB_end hall.out).symm, rfl⟩
theorem isValue_spec (s : ByteArray) (_ : s.size ≤ 9223372036854775807) (w : World) :
    Calls Tryd.prog 19 #[.string s] w fun e w' => e = .returned (.bool (valueB s)) ∧ w = w' := by
  go_enter Tryd.func19, Tryd.ntmps19
  go_wp2
  go_loop [3] (fun i => ∃ k : Nat, k ≤ s.size ∧ i = .int .i64 k ∧ Hid (allB valB s k = true)) (fun i => s.size - (intOf i).toNat)
  case atStart => exact ⟨0, Nat.zero_le _, rfl, allB_zero _ _⟩
  case round =>
    obtain ⟨k, hk, rfl, hall⟩ := hrel
    by_cases hlt : k < s.size
    · rcases valB_cases s[k] with ⟨hc, h⟩ | ⟨hc, h⟩
      · have hn : Hid (allB valB s (k + 1) = true) := by rw [Hid, allB_succ _ _ _ hlt, hall.out, hc]; rfl
        clear hc hall
        rcases h with ⟨h1, h2⟩ | ⟨h1, h2⟩ | h1
        all_goals
          go_wp2
          go_round
          case rel => exact ⟨k + 1, by omega, by go_num, hn⟩
          case measure => simp [intOf]; omega
      · rcases h with h1 | ⟨h1, h2⟩ | ⟨h1, h2⟩ | h1
        · go_wp2
          all_goals first | (go_ret; exact ⟨ret_bool (valB_no hlt hc).symm, rfl⟩) | (exfalso; rename_i h; simp at h; omega)
        · exact h2.elim
        · go_wp2
          all_goals first | (go_ret; exact ⟨ret_bool (valB_no hlt hc).symm, rfl⟩) | (exfalso; rename_i h; simp at h; omega)
        · go_wp2
          all_goals first | (go_ret; exact ⟨ret_bool (valB_no hlt hc).symm, rfl⟩) | (exfalso; rename_i h; simp at h; omega)
    · obtain rfl : k = s.size := by omega
      go_wp2_with (go_at_call 48; refine (inRange_spec _ _ _ _).mono ?_; rintro e w' ⟨rfl, rfl⟩)
      go_ret
      exact ⟨ret_bool (valueB_end hall.out).symm, rfl⟩
end Go.Proofs.YtkmechjilekcmaaDoor
