/-
  Contracts of ParseAddr of the reference. Conditions: strings of at most 2^30 bytes.
-/
import Derived.Test.YtpehaoamfifgbaaPar
namespace Go.Proofs.Ytpehaoamfifgbaa
set_option linter.unusedVariables false
set_option linter.unusedSimpArgs false
set_option maxRecDepth 100000
open Go.ChangeShapes Go.WideShapes Go.ChangeAt Go.RowKit Go.Deep

theorem ne47 {c : UInt8} (h : c ≠ 47) : ((c.toNat : Nat) : Int) ≠ 47 := by intro e; exact h (UInt8.toNat_inj.1 (by simp; omega))
theorem eq47 {c : UInt8} (h : c = 47) : ((c.toNat : Nat) : Int) = 47 := by subst h; rfl
set_option maxHeartbeats 400000 in
theorem parseAddr_spec_miss0 (s b : ByteArray) (h1 : s.size ≤ 1073741824) (h2 : b.size ≤ 1073741824) (hm : ∀ j (hj : j < s.size), s[j] ≠ 47) (hn : (nameB b && nameB s) = false) (w : World) :
    Calls Try.prog 10 #[.string s, .string b] w fun e w' => e = retA (b, s) ∧ Below w.heap.size w w' := by
  have e0 := Lib.hid (retA_no (a := (b, s)) hn)
  have cb := ((Below.refl w.heap.size w).alloc (Nat.le_refl _) (.cells #[.string ⟨#[]⟩, .string ⟨#[]⟩] 25)).alloc (by simp) (.cells #[.string b, .string s] 25)
  go_enter Try.func10, Try.ntmps10
  go_wp2
  go_loop [7] (fun v => ∃ k : Nat, k ≤ s.size ∧ v = .int .i64 k) (fun v => s.size - (intOf v).toNat)
  case atStart => exact ⟨0, Nat.zero_le _, rfl⟩
  case round =>
    obtain ⟨k, hk, rfl⟩ := hrel
    by_cases hlt : k < s.size
    · have hne := ne47 (hm k hlt)
      go_wp2
      all_goals
        go_round
        case rel => exact ⟨k + 1, by omega, by go_num⟩
        case measure => simp [intOf]; omega
    · obtain rfl : k = s.size := by omega
      go_wp2_with (go_at_call 33; refine (isAddr_spec b s (by omega) (by omega) _).mono ?_; rintro e w2 ⟨rfl, b2⟩; rw [hn]; have cb3 := cb.trans (b2.mono cb.size); obtain ⟨R0, R1, Rf0, Rf1⟩ := box_next b2 (b := w.heap.size) (u0 := .string ⟨#[]⟩) (u1 := .string ⟨#[]⟩) (by simp; omega) (by simp [go_sem]) (by simp [go_sem]) (by simp [go_sem]) (by simp [go_sem]); obtain ⟨A0, A1, Af0, Af1⟩ := box_next b2 (b := w.heap.size + 1) (u0 := .string b) (u1 := .string s) (by simp) (by simp [go_sem]) (by simp [go_sem]) (by simp [go_sem]) (by simp [go_sem]))
      all_goals
        exact bodyPost_ret (v := .tuple #[.agg #[.string ⟨#[]⟩, .string ⟨#[]⟩], .bool false]) (by simp [results, Try.results10, go_sem, R0, R1, Rf0, Rf1]) rfl
          ⟨e0.out, (cb3.setCell (p := ⟨w.heap.size, 0, none⟩) (Nat.le_refl _) (.string ⟨#[]⟩)).setCell (p := ⟨w.heap.size, 1, none⟩) (Nat.le_refl _) (.string ⟨#[]⟩)⟩
set_option maxHeartbeats 400000 in
theorem parseAddr_spec_miss1 (s b : ByteArray) (h1 : s.size ≤ 1073741824) (h2 : b.size ≤ 1073741824) (hm : ∀ j (hj : j < s.size), s[j] ≠ 47) (hn : (nameB b && nameB s) = true) (w : World) :
    Calls Try.prog 10 #[.string s, .string b] w fun e w' => e = retA (b, s) ∧ Below w.heap.size w w' := by
  have e0 := Lib.hid (retA_yes (a := (b, s)) hn)
  have cb := ((Below.refl w.heap.size w).alloc (Nat.le_refl _) (.cells #[.string ⟨#[]⟩, .string ⟨#[]⟩] 25)).alloc (by simp) (.cells #[.string b, .string s] 25)
  go_enter Try.func10, Try.ntmps10
  go_wp2
  go_loop [7] (fun v => ∃ k : Nat, k ≤ s.size ∧ v = .int .i64 k) (fun v => s.size - (intOf v).toNat)
  case atStart => exact ⟨0, Nat.zero_le _, rfl⟩
  case round =>
    obtain ⟨k, hk, rfl⟩ := hrel
    by_cases hlt : k < s.size
    · have hne := ne47 (hm k hlt)
      go_wp2
      all_goals
        go_round
        case rel => exact ⟨k + 1, by omega, by go_num⟩
        case measure => simp [intOf]; omega
    · obtain rfl : k = s.size := by omega
      go_wp2_with (go_at_call 33; refine (isAddr_spec b s (by omega) (by omega) _).mono ?_; rintro e w2 ⟨rfl, b2⟩; rw [hn]; have cb3 := cb.trans (b2.mono cb.size); obtain ⟨R0, R1, Rf0, Rf1⟩ := box_next b2 (b := w.heap.size) (u0 := .string ⟨#[]⟩) (u1 := .string ⟨#[]⟩) (by simp; omega) (by simp [go_sem]) (by simp [go_sem]) (by simp [go_sem]) (by simp [go_sem]); obtain ⟨A0, A1, Af0, Af1⟩ := box_next b2 (b := w.heap.size + 1) (u0 := .string b) (u1 := .string s) (by simp) (by simp [go_sem]) (by simp [go_sem]) (by simp [go_sem]) (by simp [go_sem]))
      all_goals
        exact bodyPost_ret (v := .tuple #[.agg #[.string b, .string s], .bool true]) (by simp [results, Try.results10, go_sem, R0, R1, Rf0, Rf1]) rfl
          ⟨e0.out, (cb3.setCell (p := ⟨w.heap.size, 0, none⟩) (Nat.le_refl _) (.string b)).setCell (p := ⟨w.heap.size, 1, none⟩) (Nat.le_refl _) (.string s)⟩
set_option maxHeartbeats 400000 in
theorem parseAddr_spec_hit0 (s b : ByteArray) (h1 : s.size ≤ 1073741824) (h2 : b.size ≤ 1073741824) (i : Nat) (hi : i < s.size) (hm : s[i] = 47) (hbe : ∀ j (hj : j < i), s[j] ≠ 47) (x y : ByteArray) (hX : s.extract 0 i = x) (hY : s.extract (i + 1) s.size = y) (hx : x.size ≤ 1073741824) (hy : y.size ≤ 1073741824) (hn : (nameB x && nameB y) = false) (w : World) :
    Calls Try.prog 10 #[.string s, .string b] w fun e w' => e = retA (x, y) ∧ Below w.heap.size w w' := by
  have e0 := Lib.hid (retA_no (a := (x, y)) hn)
  have cb := ((Below.refl w.heap.size w).alloc (Nat.le_refl _) (.cells #[.string ⟨#[]⟩, .string ⟨#[]⟩] 25)).alloc (by simp) (.cells #[.string b, .string s] 25)
  go_enter Try.func10, Try.ntmps10
  go_wp2
  have HX := Lib.hid hX
  have HY := Lib.hid hY
  clear hX hY
  go_loop [7] (fun v => ∃ k : Nat, k ≤ i ∧ v = .int .i64 k) (fun v => s.size - (intOf v).toNat)
  case atStart => exact ⟨0, Nat.zero_le _, rfl⟩
  case round =>
    obtain ⟨k, hk, rfl⟩ := hrel
    rcases Nat.lt_or_ge k i with hlt | hge
    · have hne := ne47 (hbe k hlt)
      have hks : k < s.size := by omega
      go_wp2
      all_goals
        go_round
        case rel => exact ⟨k + 1, by omega, by go_num⟩
        case measure => simp [intOf]; omega
    · obtain rfl : k = i := by omega
      have heq := eq47 hm
      have hk0 : (0 : Int) ≤ (k : Int) := Int.natCast_nonneg _
      have hk9 : (k : Int) ≤ (s.size : Int) := by omega
      have hk1 : (0 : Int) ≤ (k : Int) + 1 := by omega
      have hk2 : (k : Int) + 1 ≤ (s.size : Int) := by omega
      go_wp2_with fail
      go_region
      rw [HX.out, HY.out]
      have cd := (((Below.refl w.heap.size w).alloc (Nat.le_refl _) (.cells #[.string ⟨#[]⟩, .string ⟨#[]⟩] 25)).alloc (by simp) (.cells #[.string x, .string y] 25)).drew
      go_wp2_with (go_at_call 33; refine (isAddr_spec x y (by omega) (by omega) _).mono ?_; rintro e w2 ⟨rfl, b2⟩; rw [hn]; have cb3 := cd.trans (b2.mono cd.size); obtain ⟨R0, R1, Rf0, Rf1⟩ := box_next b2 (b := w.heap.size) (u0 := .string ⟨#[]⟩) (u1 := .string ⟨#[]⟩) (by simp; omega) (by simp [go_sem]) (by simp [go_sem]) (by simp [go_sem]) (by simp [go_sem]); obtain ⟨A0, A1, Af0, Af1⟩ := box_next b2 (b := w.heap.size + 1) (u0 := .string x) (u1 := .string y) (by simp) (by simp [go_sem]) (by simp [go_sem]) (by simp [go_sem]) (by simp [go_sem]))
      all_goals
        exact bodyPost_ret (v := .tuple #[.agg #[.string ⟨#[]⟩, .string ⟨#[]⟩], .bool false]) (by simp [results, Try.results10, go_sem, R0, R1, Rf0, Rf1]) rfl
          ⟨e0.out, (cb3.setCell (p := ⟨w.heap.size, 0, none⟩) (Nat.le_refl _) (.string ⟨#[]⟩)).setCell (p := ⟨w.heap.size, 1, none⟩) (Nat.le_refl _) (.string ⟨#[]⟩)⟩
set_option maxHeartbeats 400000 in
theorem parseAddr_spec_hit1 (s b : ByteArray) (h1 : s.size ≤ 1073741824) (h2 : b.size ≤ 1073741824) (i : Nat) (hi : i < s.size) (hm : s[i] = 47) (hbe : ∀ j (hj : j < i), s[j] ≠ 47) (x y : ByteArray) (hX : s.extract 0 i = x) (hY : s.extract (i + 1) s.size = y) (hx : x.size ≤ 1073741824) (hy : y.size ≤ 1073741824) (hn : (nameB x && nameB y) = true) (w : World) :
    Calls Try.prog 10 #[.string s, .string b] w fun e w' => e = retA (x, y) ∧ Below w.heap.size w w' := by
  have e0 := Lib.hid (retA_yes (a := (x, y)) hn)
  have cb := ((Below.refl w.heap.size w).alloc (Nat.le_refl _) (.cells #[.string ⟨#[]⟩, .string ⟨#[]⟩] 25)).alloc (by simp) (.cells #[.string b, .string s] 25)
  go_enter Try.func10, Try.ntmps10
  go_wp2
  have HX := Lib.hid hX
  have HY := Lib.hid hY
  clear hX hY
  go_loop [7] (fun v => ∃ k : Nat, k ≤ i ∧ v = .int .i64 k) (fun v => s.size - (intOf v).toNat)
  case atStart => exact ⟨0, Nat.zero_le _, rfl⟩
  case round =>
    obtain ⟨k, hk, rfl⟩ := hrel
    rcases Nat.lt_or_ge k i with hlt | hge
    · have hne := ne47 (hbe k hlt)
      have hks : k < s.size := by omega
      go_wp2
      all_goals
        go_round
        case rel => exact ⟨k + 1, by omega, by go_num⟩
        case measure => simp [intOf]; omega
    · obtain rfl : k = i := by omega
      have heq := eq47 hm
      have hk0 : (0 : Int) ≤ (k : Int) := Int.natCast_nonneg _
      have hk9 : (k : Int) ≤ (s.size : Int) := by omega
      have hk1 : (0 : Int) ≤ (k : Int) + 1 := by omega
      have hk2 : (k : Int) + 1 ≤ (s.size : Int) := by omega
      go_wp2_with fail
      go_region
      rw [HX.out, HY.out]
      have cd := (((Below.refl w.heap.size w).alloc (Nat.le_refl _) (.cells #[.string ⟨#[]⟩, .string ⟨#[]⟩] 25)).alloc (by simp) (.cells #[.string x, .string y] 25)).drew
      go_wp2_with (go_at_call 33; refine (isAddr_spec x y (by omega) (by omega) _).mono ?_; rintro e w2 ⟨rfl, b2⟩; rw [hn]; have cb3 := cd.trans (b2.mono cd.size); obtain ⟨R0, R1, Rf0, Rf1⟩ := box_next b2 (b := w.heap.size) (u0 := .string ⟨#[]⟩) (u1 := .string ⟨#[]⟩) (by simp; omega) (by simp [go_sem]) (by simp [go_sem]) (by simp [go_sem]) (by simp [go_sem]); obtain ⟨A0, A1, Af0, Af1⟩ := box_next b2 (b := w.heap.size + 1) (u0 := .string x) (u1 := .string y) (by simp) (by simp [go_sem]) (by simp [go_sem]) (by simp [go_sem]) (by simp [go_sem]))
      all_goals
        exact bodyPost_ret (v := .tuple #[.agg #[.string x, .string y], .bool true]) (by simp [results, Try.results10, go_sem, R0, R1, Rf0, Rf1]) rfl
          ⟨e0.out, (cb3.setCell (p := ⟨w.heap.size, 0, none⟩) (Nat.le_refl _) (.string x)).setCell (p := ⟨w.heap.size, 1, none⟩) (Nat.le_refl _) (.string y)⟩
theorem parseAddr_impl (s b : ByteArray) (h1 : s.size ≤ 1073741824) (h2 : b.size ≤ 1073741824) (w : World) :
    Calls Try.prog 7 #[.string s, .string b] w fun e w' => e = retA (cutA s b) ∧ Below w.heap.size w w' := by
  rcases ixB_cases s 47 with ⟨hm, hall⟩ | ⟨i, hi, hm, he, hb⟩
  · rw [cutA_miss hm]
    cases hn : (nameB b && nameB s)
    · exact parseAddr_impl_miss0 s b h1 h2 hm hn w
    · exact parseAddr_impl_miss1 s b h1 h2 hm hn w
  · rw [cutA_hit hm]
    have hx : (s.extract 0 i).size ≤ 1073741824 := by simp; omega
    have hy : (s.extract (i + 1) s.size).size ≤ 1073741824 := by simp; omega
    cases hn : (nameB (s.extract 0 i) && nameB (s.extract (i + 1) s.size))
    · exact parseAddr_impl_hit0 s b h1 h2 i hi hm _ _ rfl rfl hx hy hn w
    · exact parseAddr_impl_hit1 s b h1 h2 i hi hm _ _ rfl rfl hx hy hn w
theorem parseAddr_spec (s b : ByteArray) (h1 : s.size ≤ 1073741824) (h2 : b.size ≤ 1073741824) (w : World) :
    Calls Try.prog 10 #[.string s, .string b] w fun e w' => e = retA (cutA s b) ∧ Below w.heap.size w w' := by
  rcases ixB_cases s 47 with ⟨hm, hall⟩ | ⟨i, hi, hm, he, hb⟩
  · rw [cutA_miss hm]
    cases hn : (nameB b && nameB s)
    · exact parseAddr_spec_miss0 s b h1 h2 hall hn w
    · exact parseAddr_spec_miss1 s b h1 h2 hall hn w
  · rw [cutA_hit hm]
    have hx : (s.extract 0 i).size ≤ 1073741824 := by simp; omega
    have hy : (s.extract (i + 1) s.size).size ≤ 1073741824 := by simp; omega
    cases hn : (nameB (s.extract 0 i) && nameB (s.extract (i + 1) s.size))
    · exact parseAddr_spec_hit0 s b h1 h2 i hi he hb _ _ rfl rfl hx hy hn w
    · exact parseAddr_spec_hit1 s b h1 h2 i hi he hb _ _ rfl rfl hx hy hn w
end Go.Proofs.Ytpehaoamfifgbaa
