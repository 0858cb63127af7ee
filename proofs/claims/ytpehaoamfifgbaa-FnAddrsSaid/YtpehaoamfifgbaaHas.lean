/-
  Contracts of HasAddr of the program and of the reference, and of slices.Index and slices.Contains at it. Conditions: at most 2^30 elements.
-/
import Derived.Test.YtpehaoamfifgbaaAdd
namespace Go.Proofs.Ytpehaoamfifgbaa
set_option linter.unusedVariables false
set_option linter.unusedSimpArgs false
set_option maxRecDepth 100000
open Go.ChangeShapes Go.WideShapes Go.ChangeAt Go.RowKit Go.Deep
set_option maxHeartbeats 400000 in
theorem indexAddr_any {A : Option Addr} {n c : Nat} {l : List S2} (a : S2) (w : World) (hx : Reads w w.heap.size 2 A n (s2V l)) (hn : n ≤ 1073741824) :
    Calls Try.prog 57 #[.slice A n c, .agg #[.string a.1, .string a.2]] w fun e w' => ∃ r : Int, e = .returned (.int .i64 r) ∧ decide (0 ≤ r) = hasA l a ∧ Below w.heap.size w w' := by
  have lx := Lib.hid hx.len2
  have hg := guard_Addr
  go_enter Try.func57, Try.ntmps57
  go_wp2
  go_loopw [8] (fun i wr => ∃ k : Nat, k ≤ n ∧ i = .int .i64 k ∧ Hid (hasTo l a k) ∧ Below w.heap.size w wr ∧ wr.cell? ⟨w.heap.size, 0, none⟩ = some (.string a.1) ∧ wr.cell? ⟨w.heap.size, 1, none⟩ = some (.string a.2) ∧ w.heap.size < wr.heap.size) (fun i _ => n - (intOf i).toNat)
  case atStart => exact ⟨0, Nat.zero_le _, rfl, hasTo_zero _ _, (Below.refl _ _).alloc (Nat.le_refl _) _, by simp [go_sem], by simp [go_sem], by simp⟩
  case round =>
    obtain ⟨k, hk, rfl, hnot, hbel, hb0, hb1, hsz⟩ := hrel
    by_cases hlt : k < n
    · obtain ⟨b0, off0, rfl, hab, hcx⟩ := (hx.below hbel).two hlt
      have hl1 : k < l.length := by rw [lx.out]; exact hlt
      obtain ⟨hc0, hc1⟩ := hcx hl1
      have hq := eqIn_Addr a l[k]
      have hk0 : (0 : Int) ≤ (k : Int) := Int.natCast_nonneg _
      have hk9 : (k : Int) < (n : Int) := by omega
      cases he : s2eq a l[k]
      · have hm : Hid (hasTo l a (k + 1)) := hasTo_succ hnot.out hl1 (by rw [s2eq_comm]; exact he)
        generalize l[k] = x at *
        clear hx hcx hnot
        go_wp2_with fail
        go_region
        all_goals
          go_wp2
          go_roundw
          case rel => exact ⟨k + 1, by omega, by go_num, hm, hbel.drew, by simpa using hb0, by simpa using hb1, by simpa using hsz⟩
          case measure => simp [intOf]; omega
      · have hm : Hid (hasA l a = true) := hasA_at hl1 (by rw [s2eq_comm]; exact he)
        generalize l[k] = x at *
        clear hx hcx hnot
        go_wp2_with fail
        go_region
        all_goals
          go_wp2
          go_ret
          exact ⟨_, rfl, by rw [hm.out]; exact decide_eq_true hk0, hbel.drew⟩
    · obtain rfl : k = n := by omega
      have hm : Hid (hasA l a = false) := hasA_end hnot.out (by rw [lx.out]; exact Nat.le_refl _)
      go_wp2
      go_ret
      exact ⟨_, rfl, by rw [hm.out]; rfl, hbel⟩
theorem containsAddr_any {A : Option Addr} {n c : Nat} {l : List S2} (a : S2) (w : World) (hx : Reads w w.heap.size 2 A n (s2V l)) (hn : n ≤ 1073741824) :
    Calls Try.prog 39 #[.slice A n c, .agg #[.string a.1, .string a.2]] w fun e w' => e = .returned (.bool (hasA l a)) ∧ Below w.heap.size w w' := by
  have hb := (Below.refl w.heap.size w).alloc (Nat.le_refl _) (.cells #[.string a.1, .string a.2] 25)
  go_enter Try.func39, Try.ntmps39
  go_wp2_with (go_at_call 57; refine (indexAddr_any a _ ((hx.below hb).more hb.size) hn).mono ?_; rintro e w' ⟨r, rfl, hr, b1⟩)
  all_goals
    go_ret
    exact ⟨rfl, hb.trans (b1.mono hb.size)⟩
theorem hasAddr_impl {A : Option Addr} {n c : Nat} {l : List S2} (a : S2) (w : World) (hx : Reads w w.heap.size 2 A n (s2V l)) (hn : n ≤ 1073741824) :
    Calls Try.prog 15 #[.slice A n c, .agg #[.string a.1, .string a.2]] w fun e w' => e = .returned (.bool (hasA l a)) ∧ Below w.heap.size w w' := by
  have hb := (Below.refl w.heap.size w).alloc (Nat.le_refl _) (.cells #[.string a.1, .string a.2] 25)
  go_enter Try.func15, Try.ntmps15
  go_wp2_with (go_at_call 39; refine (containsAddr_any a _ ((hx.below hb).more hb.size) hn).mono ?_; rintro e w' ⟨rfl, b1⟩)
  all_goals
    go_ret
    exact ⟨rfl, hb.trans (b1.mono hb.size)⟩
end Go.Proofs.Ytpehaoamfifgbaa
