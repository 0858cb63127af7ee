/-
  Contracts of InRange, Mod, IsName, IsValue, IsAddr and of the generated toAddr, szAddr. Conditions: the bounds of Go integers and strings.
-/
import Derived.Test.YtipfhedbeeabdaaOne
import Derived.Test.YtipfhedbeeabdaaMem
import Derived.BigQuiet
import Derived.Deep.QuietTactic
import Derived.Outline
namespace Go.Proofs.Ytipfhedbeeabdaa
set_option linter.unusedVariables false
open Go.ChangeShapes Go.WideShapes Go.ChangeAt Go.RowKit
open Go.ChangeMaps (open_string shut_string)

theorem inRange_impl (n a b : Int) (w : World) : Calls Try.prog 47 #[.int .i64 n, .int .i64 a, .int .i64 b] w fun e w' => e = .returned (.bool (inR n a b)) ∧ w = w' := by
  by_cases h1 : a ≤ n
  · go_enter Try.func47, Try.ntmps47
    go_wp2
    go_ret
    exact ⟨ret_bool (inR_yes h1), rfl⟩
  · have h2 : n < a := by omega
    go_enter Try.func47, Try.ntmps47
    go_wp2
    go_ret
    exact ⟨ret_bool (inR_no h2), rfl⟩
theorem inRange_spec (n a b : Int) (w : World) : Calls Try.prog 56 #[.int .i64 n, .int .i64 a, .int .i64 b] w fun e w' => e = .returned (.bool (inR n a b)) ∧ w = w' := by
  by_cases h1 : a ≤ n
  · go_enter Try.func56, Try.ntmps56
    go_wp2
    go_ret
    exact ⟨ret_bool (inR_yes h1), rfl⟩
  · have h2 : n < a := by omega
    go_enter Try.func56, Try.ntmps56
    go_wp2
    go_ret
    exact ⟨ret_bool (inR_no h2), rfl⟩


theorem isName_impl (s : ByteArray) (_ : s.size ≤ 9223372036854775807) (w : World) :
    Calls Try.prog 31 #[.string s] w fun e w' => e = .returned (.bool (nameB s)) ∧ w = w' := by
  go_enter Try.func31, Try.ntmps31
  go_wp2
  go_loop [3] (fun i => ∃ k : Nat, k ≤ s.size ∧ i = .int .i64 k ∧ Hid (allB lowB s k = true)) (fun i => s.size - (intOf i).toNat)
  case atStart => exact ⟨0, Nat.zero_le _, rfl, allB_zero _ _⟩
  case round =>
    obtain ⟨k, hk, rfl, hall⟩ := hrel
    by_cases hlt : k < s.size
    · cases hc : lowB s[k]
      · rcases lowB_no hc with h1 | ⟨h1, h2⟩
        all_goals
          go_wp2
          go_ret
          exact ⟨ret_bool (nameB_no hlt hc).symm, rfl⟩
      · obtain ⟨h1, h2⟩ := lowB_yes hc
        have hn : Hid (allB lowB s (k + 1) = true) := by rw [Hid, allB_succ _ _ _ hlt, hall.out, hc]; rfl
        clear hc hall
        go_wp2
        go_round
        case rel => exact ⟨k + 1, by omega, by go_num, hn⟩
        case measure => simp [intOf]; omega
    · obtain rfl : k = s.size := by omega
      go_wp2_with (go_at_call 47; refine (inRange_impl _ _ _ _).mono ?_; rintro e w' ⟨rfl, rfl⟩)
      go_ret
      exact ⟨ret_bool (nameB_end hall.out).symm, rfl⟩
theorem isName_spec (s : ByteArray) (_ : s.size ≤ 9223372036854775807) (w : World) :
    Calls Try.prog 46 #[.string s] w fun e w' => e = .returned (.bool (nameB s)) ∧ w = w' := by
  go_enter Try.func46, Try.ntmps46
  go_wp2
  go_loop [3] (fun i => ∃ k : Nat, k ≤ s.size ∧ i = .int .i64 k ∧ Hid (allB lowB s k = true)) (fun i => s.size - (intOf i).toNat)
  case atStart => exact ⟨0, Nat.zero_le _, rfl, allB_zero _ _⟩
  case round =>
    obtain ⟨k, hk, rfl, hall⟩ := hrel
    by_cases hlt : k < s.size
    · cases hc : lowB s[k]
      · rcases lowB_no hc with h1 | ⟨h1, h2⟩
        all_goals
          go_wp2
          go_ret
          exact ⟨ret_bool (nameB_no hlt hc).symm, rfl⟩
      · obtain ⟨h1, h2⟩ := lowB_yes hc
        have hn : Hid (allB lowB s (k + 1) = true) := by rw [Hid, allB_succ _ _ _ hlt, hall.out, hc]; rfl
        clear hc hall
        go_wp2
        go_round
        case rel => exact ⟨k + 1, by omega, by go_num, hn⟩
        case measure => simp [intOf]; omega
    · obtain rfl : k = s.size := by omega
      go_wp2_with (go_at_call 56; refine (inRange_spec _ _ _ _).mono ?_; rintro e w' ⟨rfl, rfl⟩)
      go_ret
      exact ⟨ret_bool (nameB_end hall.out).symm, rfl⟩
theorem isAddr_impl (a b : ByteArray) (_ : a.size ≤ 9223372036854775807) (_ : b.size ≤ 9223372036854775807) (w : World) :
    Calls Try.prog 11 #[.agg #[.string a, .string b]] w fun e w' => e = .returned (.bool (nameB a && nameB b)) ∧ Below w.heap.size w w' := by
  cases h : nameB a
  all_goals
    go_enter Try.func11, Try.ntmps11
    go_wp2_with (go_at_call 31; refine (isName_impl _ (by omega) _).mono ?_; rintro e w' ⟨rfl, rfl⟩)
    go_ret
    exact ⟨rfl, (Below.refl _ _).alloc (Nat.le_refl _) _⟩
theorem isAddr_spec (a b : ByteArray) (_ : a.size ≤ 9223372036854775807) (_ : b.size ≤ 9223372036854775807) (w : World) :
    Calls Try.prog 30 #[.agg #[.string a, .string b]] w fun e w' => e = .returned (.bool (nameB a && nameB b)) ∧ Below w.heap.size w w' := by
  cases h : nameB a
  all_goals
    go_enter Try.func30, Try.ntmps30
    go_wp2_with (go_at_call 46; refine (isName_spec _ (by omega) _).mono ?_; rintro e w' ⟨rfl, rfl⟩)
    go_ret
    exact ⟨rfl, (Below.refl _ _).alloc (Nat.le_refl _) _⟩

theorem toAddr_any (a b : ByteArray) (w : World) : Calls Try.prog 40 #[.agg #[.string a, .string b]] w fun e w' => e = .returned (.agg #[.string a, .string b]) ∧ Below w.heap.size w w' := by
  go_enter Try.func40, Try.ntmps40
  go_wp2
  exact bodyPost_ret (v := .agg #[.string a, .string b]) (by simp [results, Try.results40, go_sem]) rfl ⟨rfl, ((((Below.refl _ _).alloc (Nat.le_refl _) _).alloc (by simp) _).alloc (by simp; omega) _)⟩
def Sized (left size : Int) (w : World) (e : Ending) (w' : World) : Prop :=
  ∃ r : Int, e = .returned (.int .i64 r) ∧ r ≤ left ∧ -1 ≤ r ∧ (0 ≤ r → size + r ≤ left) ∧ Below w.heap.size w w'
theorem szAddr_any (a b : ByteArray) (ha : a.size ≤ 9223372036854775807) (hb : b.size ≤ 9223372036854775807) (left : Int) (h0 : 0 ≤ left) (h1 : left ≤ 1048576) (w : World) :
    Calls Try.prog 37 #[.agg #[.string a, .string b], .int .i64 left] w (Sized left (a.size + b.size) w) := by
  go_enter Try.func37, Try.ntmps37
  go_wp2
  all_goals go_ret
  all_goals refine ⟨_, rfl, ?_, ?_, ?_, (Below.refl _ _).alloc (Nat.le_refl _) _⟩
  all_goals omega
end Go.Proofs.Ytipfhedbeeabdaa
