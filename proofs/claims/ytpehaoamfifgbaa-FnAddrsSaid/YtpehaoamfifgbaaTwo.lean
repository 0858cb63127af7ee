/-
  Contracts of InRange, Mod, IsName, IsValue, IsAddr and of the generated toAddr, szAddr. Conditions: the bounds of Go integers and strings.
-/
import Derived.Test.YtpehaoamfifgbaaOne
import Derived.Test.YtpehaoamfifgbaaMem
import Derived.BigQuiet
import Derived.Deep.QuietTactic
import Derived.Outline
namespace Go.Proofs.Ytpehaoamfifgbaa
set_option linter.unusedVariables false
open Go.ChangeShapes Go.WideShapes Go.ChangeAt Go.RowKit
open Go.ChangeMaps (open_string shut_string)

theorem inRange_impl (n a b : Int) (w : World) : Calls Try.prog 53 #[.int .i64 n, .int .i64 a, .int .i64 b] w fun e w' => e = .returned (.bool (inR n a b)) ∧ w = w' := by
  by_cases h1 : a ≤ n
  · go_enter Try.func53, Try.ntmps53
    go_wp2
    go_ret
    exact ⟨ret_bool (inR_yes h1), rfl⟩
  · have h2 : n < a := by omega
    go_enter Try.func53, Try.ntmps53
    go_wp2
    go_ret
    exact ⟨ret_bool (inR_no h2), rfl⟩
theorem inRange_spec (n a b : Int) (w : World) : Calls Try.prog 67 #[.int .i64 n, .int .i64 a, .int .i64 b] w fun e w' => e = .returned (.bool (inR n a b)) ∧ w = w' := by
  by_cases h1 : a ≤ n
  · go_enter Try.func67, Try.ntmps67
    go_wp2
    go_ret
    exact ⟨ret_bool (inR_yes h1), rfl⟩
  · have h2 : n < a := by omega
    go_enter Try.func67, Try.ntmps67
    go_wp2
    go_ret
    exact ⟨ret_bool (inR_no h2), rfl⟩


theorem isName_impl (s : ByteArray) (_ : s.size ≤ 9223372036854775807) (w : World) :
    Calls Try.prog 34 #[.string s] w fun e w' => e = .returned (.bool (nameB s)) ∧ w = w' := by
  go_enter Try.func34, Try.ntmps34
  go_wp2
  go_loop [3] (fun i => ∃ k : Nat, k ≤ s.size ∧ i = .int .i64 k ∧ Hid (allB lowB s k = true)) (fun i => s.size - (intOf i).toNat)
  case atStart => exact ⟨0, Nat.zero_le _, rfl, allB_zero _ _⟩
  case round =>
    obtain ⟨k, hk, rfl, hall⟩ := hrel
    by_cases hlt : k < s.size
    · cases hc : lowB s[k]
      · rcases lowB_no hc with h1 | ⟨h1, h2⟩
        all_goals
          go_wp2
          go_ret
          exact ⟨ret_bool (nameB_no hlt hc).symm, rfl⟩
      · obtain ⟨h1, h2⟩ := lowB_yes hc
        have hn : Hid (allB lowB s (k + 1) = true) := by rw [Hid, allB_succ _ _ _ hlt, hall.out, hc]; rfl
        clear hc hall
        go_wp2
        go_round
        case rel => exact ⟨k + 1, by omega, by go_num, hn⟩
        case measure => simp [intOf]; omega
    · obtain rfl : k = s.size := by omega
      go_wp2_with (go_at_call 53; refine (inRange_impl _ _ _ _).mono ?_; rintro e w' ⟨rfl, rfl⟩)
      go_ret
      exact ⟨ret_bool (nameB_end hall.out).symm, rfl⟩
theorem isName_spec (s : ByteArray) (_ : s.size ≤ 9223372036854775807) (w : World) :
    Calls Try.prog 52 #[.string s] w fun e w' => e = .returned (.bool (nameB s)) ∧ w = w' := by
  go_enter Try.func52, Try.ntmps52
  go_wp2
  go_loop [3] (fun i => ∃ k : Nat, k ≤ s.size ∧ i = .int .i64 k ∧ Hid (allB lowB s k = true)) (fun i => s.size - (intOf i).toNat)
  case atStart => exact ⟨0, Nat.zero_le _, rfl, allB_zero _ _⟩
  case round =>
    obtain ⟨k, hk, rfl, hall⟩ := hrel
    by_cases hlt : k < s.size
    · cases hc : lowB s[k]
      · rcases lowB_no hc with h1 | ⟨h1, h2⟩
        all_goals
          go_wp2
          go_ret
          exact ⟨ret_bool (nameB_no hlt hc).symm, rfl⟩
      · obtain ⟨h1, h2⟩ := lowB_yes hc
        have hn : Hid (allB lowB s (k + 1) = true) := by rw [Hid, allB_succ _ _ _ hlt, hall.out, hc]; rfl
        clear hc hall
        go_wp2
        go_round
        case rel => exact ⟨k + 1, by omega, by go_num, hn⟩
        case measure => simp [intOf]; omega
    · obtain rfl : k = s.size := by omega
      go_wp2_with (go_at_call 67; refine (inRange_spec _ _ _ _).mono ?_; rintro e w' ⟨rfl, rfl⟩)
      go_ret
      exact ⟨ret_bool (nameB_end hall.out).symm, rfl⟩
theorem isAddr_impl (a b : ByteArray) (_ : a.size ≤ 9223372036854775807) (_ : b.size ≤ 9223372036854775807) (w : World) :
    Calls Try.prog 11 #[.agg #[.string a, .string b]] w fun e w' => e = .returned (.bool (nameB a && nameB b)) ∧ Below w.heap.size w w' := by
  cases h : nameB a
  all_goals
    go_enter Try.func11, Try.ntmps11
    go_wp2_with (go_at_call 34; refine (isName_impl _ (by omega) _).mono ?_; rintro e w' ⟨rfl, rfl⟩)
    go_ret
    exact ⟨rfl, (Below.refl _ _).alloc (Nat.le_refl _) _⟩
theorem isAddr_spec (a b : ByteArray) (_ : a.size ≤ 9223372036854775807) (_ : b.size ≤ 9223372036854775807) (w : World) :
    Calls Try.prog 33 #[.agg #[.string a, .string b]] w fun e w' => e = .returned (.bool (nameB a && nameB b)) ∧ Below w.heap.size w w' := by
  cases h : nameB a
  all_goals
    go_enter Try.func33, Try.ntmps33
    go_wp2_with (go_at_call 52; refine (isName_spec _ (by omega) _).mono ?_; rintro e w' ⟨rfl, rfl⟩)
    go_ret
    exact ⟨rfl, (Below.refl _ _).alloc (Nat.le_refl _) _⟩

def Sized (left size : Int) (w : World) (e : Ending) (w' : World) : Prop :=
  ∃ r : Int, e = .returned (.int .i64 r) ∧ r ≤ left ∧ -1 ≤ r ∧ (0 ≤ r → size + r ≤ left) ∧ Below w.heap.size w w'
end Go.Proofs.Ytpehaoamfifgbaa
