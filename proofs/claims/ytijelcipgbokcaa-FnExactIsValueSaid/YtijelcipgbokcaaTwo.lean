/-
  Contracts of InRange, Mod, IsName, IsValue, IsAddr and of the generated toAddr, szAddr. Conditions: the bounds of Go integers and strings.
-/
import Derived.Test.YtijelcipgbokcaaOne
import Derived.Test.YtijelcipgbokcaaMem
import Derived.BigQuiet
import Derived.Deep.QuietTactic
import Derived.Outline
namespace Go.Proofs.Ytijelcipgbokcaa
set_option linter.unusedVariables false
open Go.ChangeShapes Go.WideShapes Go.ChangeAt Go.RowKit
open Go.ChangeMaps (open_string shut_string)

theorem inRange_impl (n a b : Int) (w : World) : Calls Try.prog 16 #[.int .i64 n, .int .i64 a, .int .i64 b] w fun e w' => e = .returned (.bool (inR n a b)) ∧ w = w' := by
  by_cases h1 : a ≤ n
  · go_enter Try.func16, Try.ntmps16
    go_wp2
    go_ret
    exact ⟨ret_bool (inR_yes h1), rfl⟩
  · have h2 : n < a := by omega
    go_enter Try.func16, Try.ntmps16
    go_wp2
    go_ret
    exact ⟨ret_bool (inR_no h2), rfl⟩
theorem inRange_spec (n a b : Int) (w : World) : Calls Try.prog 41 #[.int .i64 n, .int .i64 a, .int .i64 b] w fun e w' => e = .returned (.bool (inR n a b)) ∧ w = w' := by
  by_cases h1 : a ≤ n
  · go_enter Try.func41, Try.ntmps41
    go_wp2
    go_ret
    exact ⟨ret_bool (inR_yes h1), rfl⟩
  · have h2 : n < a := by omega
    go_enter Try.func41, Try.ntmps41
    go_wp2
    go_ret
    exact ⟨ret_bool (inR_no h2), rfl⟩

theorem mod_impl (p q : Int) (_ : -9223372036854775808 ≤ p) (_ : p ≤ 9223372036854775807) (w : World) :
    Calls Try.prog 32 #[.int .i64 p, .int .i64 q] w fun e w' => e = .returned (.int .i64 (modZ p q)) ∧ w = w' := by
  cases hq : inR q 1 1000000000000
  · go_enter Try.func32, Try.ntmps32
    go_wp2_with (go_at_call 16; refine (inRange_impl _ _ _ _).mono ?_; rintro e w' ⟨rfl, rfl⟩)
    go_ret
    exact ⟨ret_int (modZ_no hq).symm, rfl⟩
  · obtain ⟨h1, h2⟩ := inR_true hq
    have hb := tmod_bounds p h1
    go_enter Try.func32, Try.ntmps32
    go_wp2_with (go_at_call 16; refine (inRange_impl _ _ _ _).mono ?_; rintro e w' ⟨rfl, rfl⟩)
    · go_ret
      have h3 : p.tmod q < 0 := by assumption
      exact ⟨ret_int (modZ_neg hq h1 h3), rfl⟩
    · go_ret
      have h3 : 0 ≤ p.tmod q := by assumption
      exact ⟨ret_int (modZ_pos hq h1 h3), rfl⟩
theorem mod_spec (p q : Int) (_ : -9223372036854775808 ≤ p) (_ : p ≤ 9223372036854775807) (w : World) :
    Calls Try.prog 31 #[.int .i64 p, .int .i64 q] w fun e w' => e = .returned (.int .i64 (modZ p q)) ∧ w = w' := by
  cases hq : inR q 1 1000000000000
  · go_enter Try.func31, Try.ntmps31
    go_wp2_with (go_at_call 41; refine (inRange_spec _ _ _ _).mono ?_; rintro e w' ⟨rfl, rfl⟩)
    go_ret
    exact ⟨ret_int (modZ_no hq).symm, rfl⟩
  · obtain ⟨h1, h2⟩ := inR_true hq
    have hb := tmod_bounds p h1
    go_enter Try.func31, Try.ntmps31
    go_wp2_with (go_at_call 41; refine (inRange_spec _ _ _ _).mono ?_; rintro e w' ⟨rfl, rfl⟩)
    go_ret
    exact ⟨ret_int (modZ_sum hq h1), rfl⟩

theorem isName_impl (s : ByteArray) (_ : s.size ≤ 9223372036854775807) (w : World) :
    Calls Try.prog 28 #[.string s] w fun e w' => e = .returned (.bool (nameB s)) ∧ w = w' := by
  go_enter Try.func28, Try.ntmps28
  go_wp2
  go_loop [3] (fun i => ∃ k : Nat, k ≤ s.size ∧ i = .int .i64 k ∧ Hid (allB lowB s k = true)) (fun i => s.size - (intOf i).toNat)
  case atStart => exact ⟨0, Nat.zero_le _, rfl, allB_zero _ _⟩
  case round =>
    obtain ⟨k, hk, rfl, hall⟩ := hrel
    by_cases hlt : k < s.size
    · cases hc : lowB s[k]
      · rcases lowB_no hc with h1 | ⟨h1, h2⟩
        all_goals
          go_wp2
          go_ret
          exact ⟨ret_bool (nameB_no hlt hc).symm, rfl⟩
      · obtain ⟨h1, h2⟩ := lowB_yes hc
        have hn : Hid (allB lowB s (k + 1) = true) := by rw [Hid, allB_succ _ _ _ hlt, hall.out, hc]; rfl
        clear hc hall
        go_wp2
        go_round
        case rel => exact ⟨k + 1, by omega, by go_num, hn⟩
        case measure => simp [intOf]; omega
    · obtain rfl : k = s.size := by omega
      go_wp2_with (go_at_call 16; refine (inRange_impl _ _ _ _).mono ?_; rintro e w' ⟨rfl, rfl⟩)
      go_ret
      exact ⟨ret_bool (nameB_end hall.out).symm, rfl⟩
theorem isName_spec (s : ByteArray) (_ : s.size ≤ 9223372036854775807) (w : World) :
    Calls Try.prog 27 #[.string s] w fun e w' => e = .returned (.bool (nameB s)) ∧ w = w' := by
  go_enter Try.func27, Try.ntmps27
  go_wp2
  go_loop [3] (fun i => ∃ k : Nat, k ≤ s.size ∧ i = .int .i64 k ∧ Hid (allB lowB s k = true)) (fun i => s.size - (intOf i).toNat)
  case atStart => exact ⟨0, Nat.zero_le _, rfl, allB_zero _ _⟩
  case round =>
    obtain ⟨k, hk, rfl, hall⟩ := hrel
    by_cases hlt : k < s.size
    · cases hc : lowB s[k]
      · rcases lowB_no hc with h1 | ⟨h1, h2⟩
        all_goals
          go_wp2
          go_ret
          exact ⟨ret_bool (nameB_no hlt hc).symm, rfl⟩
      · obtain ⟨h1, h2⟩ := lowB_yes hc
        have hn : Hid (allB lowB s (k + 1) = true) := by rw [Hid, allB_succ _ _ _ hlt, hall.out, hc]; rfl
        clear hc hall
        go_wp2
        go_round
        case rel => exact ⟨k + 1, by omega, by go_num, hn⟩
        case measure => simp [intOf]; omega
    · obtain rfl : k = s.size := by omega
      go_wp2_with (go_at_call 41; refine (inRange_spec _ _ _ _).mono ?_; rintro e w' ⟨rfl, rfl⟩)
      go_ret
      exact ⟨ret_bool (nameB_end hall.out).symm, rfl⟩
theorem isValue_impl (s : ByteArray) (_ : s.size ≤ 9223372036854775807) (w : World) :
    Calls Try.prog 30 #[.string s] w fun e w' => e = .returned (.bool (valueB s)) ∧ w = w' := by
  go_enter Try.func30, Try.ntmps30
  go_wp2
  go_loop [3] (fun i => ∃ k : Nat, k ≤ s.size ∧ i = .int .i64 k ∧ Hid (allB valB s k = true)) (fun i => s.size - (intOf i).toNat)
  case atStart => exact ⟨0, Nat.zero_le _, rfl, allB_zero _ _⟩
  case round =>
    obtain ⟨k, hk, rfl, hall⟩ := hrel
    by_cases hlt : k < s.size
    · rcases valB_cases s[k] with ⟨hc, h⟩ | ⟨hc, h⟩
      · have hn : Hid (allB valB s (k + 1) = true) := by rw [Hid, allB_succ _ _ _ hlt, hall.out, hc]; rfl
        clear hc hall
        rcases h with ⟨h1, h2⟩ | ⟨h1, h2⟩ | h1
        all_goals
          go_wp2
          go_round
          case rel => exact ⟨k + 1, by omega, by go_num, hn⟩
          case measure => simp [intOf]; omega
      · rcases h with h1 | ⟨h1, h2⟩ | ⟨h1, h2⟩ | h1
        · go_wp2
          all_goals first | (go_ret; exact ⟨ret_bool (valB_no hlt hc).symm, rfl⟩) | (exfalso; rename_i h; simp at h; omega)
        · exact h2.elim
        · go_wp2
          all_goals first | (go_ret; exact ⟨ret_bool (valB_no hlt hc).symm, rfl⟩) | (exfalso; rename_i h; simp at h; omega)
        · go_wp2
          all_goals first | (go_ret; exact ⟨ret_bool (valB_no hlt hc).symm, rfl⟩) | (exfalso; rename_i h; simp at h; omega)
    · obtain rfl : k = s.size := by omega
      go_wp2_with (go_at_call 16; refine (inRange_impl _ _ _ _).mono ?_; rintro e w' ⟨rfl, rfl⟩)
      go_ret
      exact ⟨ret_bool (valueB_end hall.out).symm, rfl⟩
theorem isValue_spec (s : ByteArray) (_ : s.size ≤ 9223372036854775807) (w : World) :
    Calls Try.prog 29 #[.string s] w fun e w' => e = .returned (.bool (valueB s)) ∧ w = w' := by
  go_enter Try.func29, Try.ntmps29
  go_wp2
  go_loop [3] (fun i => ∃ k : Nat, k ≤ s.size ∧ i = .int .i64 k ∧ Hid (allB valB s k = true)) (fun i => s.size - (intOf i).toNat)
  case atStart => exact ⟨0, Nat.zero_le _, rfl, allB_zero _ _⟩
  case round =>
    obtain ⟨k, hk, rfl, hall⟩ := hrel
    by_cases hlt : k < s.size
    · rcases valB_cases s[k] with ⟨hc, h⟩ | ⟨hc, h⟩
      · have hn : Hid (allB valB s (k + 1) = true) := by rw [Hid, allB_succ _ _ _ hlt, hall.out, hc]; rfl
        clear hc hall
        rcases h with ⟨h1, h2⟩ | ⟨h1, h2⟩ | h1
        all_goals
          go_wp2
          go_round
          case rel => exact ⟨k + 1, by omega, by go_num, hn⟩
          case measure => simp [intOf]; omega
      · rcases h with h1 | ⟨h1, h2⟩ | ⟨h1, h2⟩ | h1
        · go_wp2
          all_goals first | (go_ret; exact ⟨ret_bool (valB_no hlt hc).symm, rfl⟩) | (exfalso; rename_i h; simp at h; omega)
        · exact h2.elim
        · go_wp2
          all_goals first | (go_ret; exact ⟨ret_bool (valB_no hlt hc).symm, rfl⟩) | (exfalso; rename_i h; simp at h; omega)
        · go_wp2
          all_goals first | (go_ret; exact ⟨ret_bool (valB_no hlt hc).symm, rfl⟩) | (exfalso; rename_i h; simp at h; omega)
    · obtain rfl : k = s.size := by omega
      go_wp2_with (go_at_call 41; refine (inRange_spec _ _ _ _).mono ?_; rintro e w' ⟨rfl, rfl⟩)
      go_ret
      exact ⟨ret_bool (valueB_end hall.out).symm, rfl⟩
theorem isAddr_impl (a b : ByteArray) (_ : a.size ≤ 9223372036854775807) (_ : b.size ≤ 9223372036854775807) (w : World) :
    Calls Try.prog 40 #[.agg #[.string a, .string b]] w fun e w' => e = .returned (.bool (nameB a && nameB b)) ∧ Below w.heap.size w w' := by
  cases h : nameB a
  all_goals
    go_enter Try.func40, Try.ntmps40
    go_wp2_with (go_at_call 28; refine (isName_impl _ (by omega) _).mono ?_; rintro e w' ⟨rfl, rfl⟩)
    go_ret
    exact ⟨rfl, (Below.refl _ _).alloc (Nat.le_refl _) _⟩
theorem isAddr_spec (a b : ByteArray) (_ : a.size ≤ 9223372036854775807) (_ : b.size ≤ 9223372036854775807) (w : World) :
    Calls Try.prog 38 #[.agg #[.string a, .string b]] w fun e w' => e = .returned (.bool (nameB a && nameB b)) ∧ Below w.heap.size w w' := by
  cases h : nameB a
  all_goals
    go_enter Try.func38, Try.ntmps38
    go_wp2_with (go_at_call 27; refine (isName_spec _ (by omega) _).mono ?_; rintro e w' ⟨rfl, rfl⟩)
    go_ret
    exact ⟨rfl, (Below.refl _ _).alloc (Nat.le_refl _) _⟩

theorem toAddr_any (a b : ByteArray) (w : World) : Calls Try.prog 39 #[.agg #[.string a, .string b]] w fun e w' => e = .returned (.agg #[.string a, .string b]) ∧ Below w.heap.size w w' := by
  go_enter Try.func39, Try.ntmps39
  go_wp2
  exact bodyPost_ret (v := .agg #[.string a, .string b]) (by simp [results, Try.results39, go_sem]) rfl ⟨rfl, ((((Below.refl _ _).alloc (Nat.le_refl _) _).alloc (by simp) _).alloc (by simp; omega) _)⟩
def Sized (left size : Int) (w : World) (e : Ending) (w' : World) : Prop :=
  ∃ r : Int, e = .returned (.int .i64 r) ∧ r ≤ left ∧ -1 ≤ r ∧ (0 ≤ r → size + r ≤ left) ∧ Below w.heap.size w w'
theorem szAddr_any (a b : ByteArray) (ha : a.size ≤ 9223372036854775807) (hb : b.size ≤ 9223372036854775807) (left : Int) (h0 : 0 ≤ left) (h1 : left ≤ 1048576) (w : World) :
    Calls Try.prog 37 #[.agg #[.string a, .string b], .int .i64 left] w (Sized left (a.size + b.size) w) := by
  go_enter Try.func37, Try.ntmps37
  go_wp2
  all_goals go_ret
  all_goals refine ⟨_, rfl, ?_, ?_, ?_, (Below.refl _ _).alloc (Nat.le_refl _) _⟩
  all_goals omega
theorem fnMod_walk (a : Int) (_ : -9223372036854775808 ≤ a) (_ : a ≤ 9223372036854775807) (b : Int) (_ : -9223372036854775808 ≤ b) (_ : b ≤ 9223372036854775807) (w : World) :
    Calls Try.prog 12 #[.int .i64 a, .int .i64 b] w fun e w' => e = .returned (.bool true) ∧ Below w.heap.size w w' := by
  go_enter Try.func12, Try.ntmps12
  go_wp2_with (first | (go_at_call 32; refine (mod_impl _ _ (by omega) (by omega) _).mono ?_; rintro e w' ⟨rfl, rfl⟩) | (go_at_call 31; refine (mod_spec _ _ (by omega) (by omega) _).mono ?_; rintro e w' ⟨rfl, rfl⟩))
  go_ret
  exact ⟨rfl, Below.refl _ _⟩
theorem fnIsName_walk (s : ByteArray) (hs : s.size ≤ maxLen) (w : World) :
    Calls Try.prog 10 #[.string s] w fun e w' => e = .returned (.bool true) ∧ Below w.heap.size w w' := by
  unfold maxLen at hs
  go_enter Try.func10, Try.ntmps10
  go_wp2_with (first | (go_at_call 28; refine (isName_impl _ (by omega) _).mono ?_; rintro e w' ⟨rfl, rfl⟩) | (go_at_call 27; refine (isName_spec _ (by omega) _).mono ?_; rintro e w' ⟨rfl, rfl⟩))
  all_goals go_ret
  all_goals exact ⟨rfl, Below.refl _ _⟩
theorem fnIsValue_walk (s : ByteArray) (hs : s.size ≤ maxLen) (w : World) :
    Calls Try.prog 11 #[.string s] w fun e w' => e = .returned (.bool true) ∧ Below w.heap.size w w' := by
  unfold maxLen at hs
  go_enter Try.func11, Try.ntmps11
  go_wp2_with (first | (go_at_call 30; refine (isValue_impl _ (by omega) _).mono ?_; rintro e w' ⟨rfl, rfl⟩) | (go_at_call 29; refine (isValue_spec _ (by omega) _).mono ?_; rintro e w' ⟨rfl, rfl⟩))
  all_goals go_ret
  all_goals exact ⟨rfl, Below.refl _ _⟩
end Go.Proofs.Ytijelcipgbokcaa
