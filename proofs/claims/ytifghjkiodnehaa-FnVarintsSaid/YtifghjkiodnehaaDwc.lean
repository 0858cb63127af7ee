/-
  Contracts of the functions that draw, third part: numbers.
-/
import Derived.Test.YtifghjkiodnehaaDwb
namespace Go.Proofs.Ytifghjkiodnehaa
set_option linter.unusedVariables false
set_option linter.unusedSimpArgs false
set_option maxRecDepth 100000
open Go.ChangeShapes Go.WideShapes Go.ChangeAt Go.RowKit Go.Deep

theorem alloc_lt (w : World) (o : Obj) : w.heap.size < (w.alloc o).heap.size := by
  show _ < (w.heap.push o).size
  rw [Array.size_push]
  omega
theorem mul_in {x y : Int} {a b : Nat} (h1 : 0 ≤ x) (h2 : x < a) (h3 : 0 ≤ y) (h4 : y < b) : 0 ≤ x * y ∧ x * y ≤ (a : Int) * b := ⟨Int.mul_nonneg h1 h3, Int.mul_le_mul (by omega) (by omega) h3 (by omega)⟩

set_option maxHeartbeats 400000 in
theorem l1Odd_any (w : World) (g : Nat) (hc : Cur w g) : Calls Try.prog 49 #[.pointer (some ⟨g, 0, none⟩)] w fun e w' => ∃ x : Int, -9223372036854775808 ≤ x ∧ x ≤ 9223372036854775807 ∧ e = .returned (.int .i64 x) ∧ Draws g w w' := by
  have hd := Draws.refl hc
  go_enter Try.func49, Try.ntmps49
  go_wp2_with (fail)
  go_at_call 46
  refine (l1Int_any _ g (hd.alloc _).2 _ 14 [-1, 0, 1, 2, 255, 256, 65535, 2147483647, 2147483648, 4294967295, 4294967296, -2147483648, 9223372036854775807, -9223372036854775808] (by have := hd.lt; omega) (by omega) (by omega) rfl (fun j v h => alloc_vals _ _ _ j v h) (alloc_lt _ _)).mono ?_
  rintro e w1 ⟨z, hz, rfl, d⟩
  replace hd := (hd.alloc _).trans d
  have hzb : -9223372036854775808 ≤ z ∧ z ≤ 9223372036854775807 := by simp at hz; omega
  clear d hz
  go_wp2
  go_ret
  exact ⟨z, by omega, by omega, rfl, hd⟩

set_option maxHeartbeats 400000 in
theorem l1Num_any (w : World) (g : Nat) (hc : Cur w g) : Calls Try.prog 45 #[.pointer (some ⟨g, 0, none⟩)] w fun e w' => ∃ x : Int, 0 ≤ x ∧ x ≤ 1000000000000 ∧ e = .returned (.int .i64 x) ∧ Draws g w w' := by
  have hd := Draws.refl hc
  go_enter Try.func45, Try.ntmps45
  go_wp2_with (fail)
  go_at_call 34
  refine (l1Below_any _ g hd.2 4 (by omega) (by omega)).mono ?_
  rintro e w1 ⟨x, hx1, hx2, rfl, d⟩
  replace hd := hd.trans d
  clear d
  by_cases c0 : x = 0
  · subst c0
    go_wp2_with (fail)
    go_at_call 34
    refine (l1Below_any _ g hd.2 2000 (by omega) (by omega)).mono ?_
    rintro e w1 ⟨y, hy1, hy2, rfl, d⟩
    replace hd := hd.trans d
    clear d
    go_wp2
    go_ret
    exact ⟨y, by omega, by omega, rfl, hd⟩
  · have e0 : (x == 0) = false := by simpa using c0
    by_cases c1 : x = 1
    · subst c1
      go_wp2_with (fail)
      go_at_call 46
      refine (l1Int_any _ g (hd.alloc _).2 _ 7 [0, 1, 127, 128, 2147483646, 2147483647, 1000000000000] (by have := hd.lt; omega) (by omega) (by omega) rfl (fun j v h => alloc_vals _ _ _ j v h) (alloc_lt _ _)).mono ?_
      rintro e w1 ⟨z, hz, rfl, d⟩
      replace hd := (hd.alloc _).trans d
      have hzb : 0 ≤ z ∧ z ≤ 1000000000000 := by simp at hz; omega
      clear d hz
      go_wp2
      go_ret
      exact ⟨z, by omega, by omega, rfl, hd⟩
    · have e1 : (x == 1) = false := by simpa using c1
      by_cases c2 : x = 2
      · subst c2
        go_wp2_with (fail)
        go_at_call 34
        refine (l1Below_any _ g hd.2 1000000 (by omega) (by omega)).mono ?_
        rintro e w1 ⟨y, hy1, hy2, rfl, d⟩
        replace hd := hd.trans d
        clear d
        go_wp2_with (fail)
        go_at_call 34
        refine (l1Below_any _ g hd.2 1000000 (by omega) (by omega)).mono ?_
        rintro e w1 ⟨z, hz1, hz2, rfl, d⟩
        replace hd := hd.trans d
        clear d
        have hq := mul_in (a := 1000000) (b := 1000000) hy1 hy2 hz1 hz2
        simp at hq
        go_wp2
        go_ret
        exact ⟨y * z, by omega, by omega, rfl, hd⟩
      · have e2 : (x == 2) = false := by simpa using c2
        go_wp2_with (fail)
        go_at_call 34
        refine (l1Below_any _ g hd.2 20 (by omega) (by omega)).mono ?_
        rintro e w1 ⟨y, hy1, hy2, rfl, d⟩
        replace hd := hd.trans d
        clear d
        go_wp2
        go_ret
        exact ⟨y, by omega, by omega, rfl, hd⟩

set_option maxHeartbeats 400000 in
theorem l1Raw_any (w : World) (g : Nat) (hc : Cur w g) : Calls Try.prog 48 #[.pointer (some ⟨g, 0, none⟩)] w fun e w' => ∃ x : Int, -9223372036854775808 ≤ x ∧ x ≤ 9223372036854775807 ∧ e = .returned (.int .i64 x) ∧ Draws g w w' := by
  have hd := Draws.refl hc
  go_enter Try.func48, Try.ntmps48
  go_wp2_with (fail)
  go_at_call 43
  refine (l1Once_any _ g hd.2 2 (by omega) (by omega)).mono ?_
  rintro e w1 ⟨b, rfl, d⟩
  replace hd := hd.trans d
  clear d
  cases b
  · go_wp2_with (fail)
    go_at_call 46
    refine (l1Int_any _ g (hd.alloc _).2 _ 3 [-1, 1000000000000, 1000000000001] (by have := hd.lt; omega) (by omega) (by omega) rfl (fun j v h => alloc_vals _ _ _ j v h) (alloc_lt _ _)).mono ?_
    rintro e w1 ⟨z, hz, rfl, d⟩
    replace hd := (hd.alloc _).trans d
    have hzb : -9223372036854775808 ≤ z ∧ z ≤ 9223372036854775807 := by simp at hz; omega
    clear d hz
    go_wp2
    go_ret
    exact ⟨z, by omega, by omega, rfl, hd⟩
  · go_wp2_with (fail)
    go_at_call 49
    refine (l1Odd_any _ g hd.2).mono ?_
    rintro e w1 ⟨x, hx1, hx2, rfl, d⟩
    replace hd := hd.trans d
    clear d
    go_wp2
    go_ret
    exact ⟨x, by omega, by omega, rfl, hd⟩

set_option maxHeartbeats 400000 in
theorem l1One_any (w : World) (g : Nat) (hc : Cur w g) : Calls Try.prog 42 #[.pointer (some ⟨g, 0, none⟩)] w fun e w' => ∃ x : Int, -9223372036854775808 ≤ x ∧ x ≤ 9223372036854775807 ∧ e = .returned (.int .i64 x) ∧ Draws g w w' := by
  have hd := Draws.refl hc
  go_enter Try.func42, Try.ntmps42
  go_wp2_with (fail)
  go_at_call 43
  refine (l1Once_any _ g hd.2 6 (by omega) (by omega)).mono ?_
  rintro e w1 ⟨b, rfl, d⟩
  replace hd := hd.trans d
  clear d
  cases b
  · go_wp2_with (fail)
    go_at_call 45
    refine (l1Num_any _ g hd.2).mono ?_
    rintro e w1 ⟨x, hx1, hx2, rfl, d⟩
    replace hd := hd.trans d
    clear d
    go_wp2
    go_ret
    exact ⟨x, by omega, by omega, rfl, hd⟩
  · go_wp2_with (fail)
    go_at_call 48
    refine (l1Raw_any _ g hd.2).mono ?_
    rintro e w1 ⟨x, hx1, hx2, rfl, d⟩
    replace hd := hd.trans d
    clear d
    go_wp2
    go_ret
    exact ⟨x, by omega, by omega, rfl, hd⟩

set_option maxHeartbeats 400000 in
theorem l3Word_any (w : World) (g : Nat) (hc : Cur w g) : Calls Try.prog 32 #[.pointer (some ⟨g, 0, none⟩)] w fun e w' => ∃ x : Int, -1 ≤ x ∧ x ≤ 2147483648 ∧ e = .returned (.int .i64 x) ∧ Draws g w w' := by
  have hd := Draws.refl hc
  go_enter Try.func32, Try.ntmps32
  go_wp2_with (fail)
  go_at_call 43
  refine (l1Once_any _ g hd.2 10 (by omega) (by omega)).mono ?_
  rintro e w1 ⟨b, rfl, d⟩
  replace hd := hd.trans d
  clear d
  cases b
  · go_wp2_with (fail)
    go_at_call 43
    refine (l1Once_any _ g hd.2 4 (by omega) (by omega)).mono ?_
    rintro e w1 ⟨b, rfl, d⟩
    replace hd := hd.trans d
    clear d
    cases b
    · go_wp2_with (fail)
      go_at_call 34
      refine (l1Below_any _ g hd.2 1000000 (by omega) (by omega)).mono ?_
      rintro e w1 ⟨y, hy1, hy2, rfl, d⟩
      replace hd := hd.trans d
      clear d
      go_wp2_with (fail)
      go_at_call 34
      refine (l1Below_any _ g hd.2 2000 (by omega) (by omega)).mono ?_
      rintro e w1 ⟨z, hz1, hz2, rfl, d⟩
      replace hd := hd.trans d
      clear d
      have hq := mul_in (a := 1000000) (b := 2000) hy1 hy2 hz1 hz2
      simp at hq
      go_wp2
      go_ret
      exact ⟨y * z, by omega, by omega, rfl, hd⟩
    · go_wp2_with (fail)
      go_at_call 46
      refine (l1Int_any _ g (hd.alloc _).2 _ 3 [0, 1, 2147483646] (by have := hd.lt; omega) (by omega) (by omega) rfl (fun j v h => alloc_vals _ _ _ j v h) (alloc_lt _ _)).mono ?_
      rintro e w1 ⟨z, hz, rfl, d⟩
      replace hd := (hd.alloc _).trans d
      have hzb : 0 ≤ z ∧ z ≤ 2147483646 := by simp at hz; omega
      clear d hz
      go_wp2
      go_ret
      exact ⟨z, by omega, by omega, rfl, hd⟩
  · go_wp2_with (fail)
    go_at_call 46
    refine (l1Int_any _ g (hd.alloc _).2 _ 3 [-1, 2147483647, 2147483648] (by have := hd.lt; omega) (by omega) (by omega) rfl (fun j v h => alloc_vals _ _ _ j v h) (alloc_lt _ _)).mono ?_
    rintro e w1 ⟨z, hz, rfl, d⟩
    replace hd := (hd.alloc _).trans d
    have hzb : -1 ≤ z ∧ z ≤ 2147483648 := by simp at hz; omega
    clear d hz
    go_wp2
    go_ret
    exact ⟨z, by omega, by omega, rfl, hd⟩

set_option maxHeartbeats 400000 in
theorem l3Words_any (w : World) (g : Nat) (hc : Cur w g) :
    Calls Try.prog 36 #[.pointer (some ⟨g, 0, none⟩)] w fun e w' => ∃ (A : Option Addr) (m c : Nat) (zs : List Int), m ≤ 4 ∧ e = .returned (.slice A m c) ∧ w'.ownsRow w.heap.size 3 1 (.slice A m c) m (zs.map (Value.int .i64)) ∧ (∀ z ∈ zs, -1 ≤ z ∧ z ≤ 2147483648) ∧ Draws g w w' := by
  have hg := hc.lt
  have hd := (Draws.refl hc).alloc (.cells #[] 3)
  have ho := own_empty w 3 1
  go_enter Try.func36, Try.ntmps36
  go_wp2_with (fail)
  go_at_call 34
  refine (l1Below_any _ g hd.2 5 (by omega) (by omega)).mono ?_
  rintro e w1 ⟨x, hx1, hx2, rfl, d⟩
  have ho1 := own_draws ho d hg
  have hd1 := hd.trans d
  clear ho hd d
  obtain ⟨j, rfl⟩ := Int.eq_ofNat_of_zero_le hx1
  go_wp2_with (fail)
  go_loopw [3, 4] (fun v i wr => ∃ (k : Nat) (A' : Option Addr) (m c' : Nat) (zs : List Int), m + k ≤ 4 ∧ i = .int .i64 k ∧ v = .slice A' m c' ∧ wr.ownsRow w.heap.size 3 1 (.slice A' m c') m (zs.map (Value.int .i64)) ∧ (∀ z ∈ zs, -1 ≤ z ∧ z ≤ 2147483648) ∧ Draws g w wr)
    (fun _ i _ => (intOf i).toNat)
  case atStart => exact ⟨j, _, 0, 0, [], by omega, rfl, rfl, ho1, by simp, hd1⟩
  case round =>
    clear hd1 ho1
    obtain ⟨k, A', m, c', zs, hk, rfl, rfl, hown, hz, hd⟩ := hrel
    have hz1 : w.heap.size ≤ wr.heap.size := hd.size
    by_cases hlt : 0 < k
    · go_wp2_with (fail)
      go_at_call 32
      refine (l3Word_any _ g hd.2).mono ?_
      rintro e w1 ⟨x, hx1, hx2, rfl, d⟩
      have ho1 := (own_draws hown d hg).alloc (.cells #[.int .i64 x] 3)
      have hr1 := Reads.one w1 (.int .i64 x) 3
      have hd1 := (hd.trans d).alloc (.cells #[.int .i64 x] 3)
      have hs : Hid (zs.map (Value.int .i64) ++ [.int .i64 x] = (zs ++ [x]).map (Value.int .i64)) := by show _ = _; simp
      have hz2 : Hid (∀ z ∈ zs ++ [x], -1 ≤ z ∧ z ≤ 2147483648) := by
        intro z hz'
        rcases List.mem_append.1 hz' with h | h
        · exact hz z h
        · simp at h; omega
      have hz3 : w.heap.size ≤ w1.heap.size := (hd.trans d).size
      clear hown hz d hd
      go_wp2_with (at_builtin; refine wpList_app row_i64 rfl (.tmp 12) (.tmp 15) rfl w.heap.size A' m c' _ rfl ho1 (w1.heap.size + 1) _ 1 1 [.int .i64 x] rfl hr1 (int_one _ _) (m + 1) _ (by omega) hs.out ⟨by omega, by omega⟩ (by simp; omega) ?_; intro A2 c2 w2 ho2 hb2)
      go_roundw
      case rel => exact ⟨k - 1, A2, m + 1, c2, _, by omega, by first | go_num | (congr 1; omega), rfl, ho2, hz2.out, hd1.next hb2 (Nat.le_refl _) hg⟩
      case measure => simp [intOf]; omega
    · obtain rfl : k = 0 := by omega
      go_wp2
      go_ret
      exact ⟨A', m, c', zs, by omega, rfl, hown, hz, hd⟩
end Go.Proofs.Ytifghjkiodnehaa
