/-
  Contracts of the functions that draw, third part: numbers.
-/
import Derived.Test.YtmfaihelphfbgaaDoorDwb
namespace Go.Proofs.YtmfaihelphfbgaaDoor
set_option linter.unusedVariables false
set_option linter.unusedSimpArgs false
set_option maxRecDepth 100000
open Go.ChangeShapes Go.WideShapes Go.ChangeAt Go.RowKit Go.Deep

theorem alloc_lt (w : World) (o : Obj) : w.heap.size < (w.alloc o).heap.size := by
  show _ < (w.heap.push o).size
  rw [Array.size_push]
  omega
theorem mul_in {x y : Int} {a b : Nat} (h1 : 0 ≤ x) (h2 : x < a) (h3 : 0 ≤ y) (h4 : y < b) : 0 ≤ x * y ∧ x * y ≤ (a : Int) * b := ⟨Int.mul_nonneg h1 h3, Int.mul_le_mul (by omega) (by omega) h3 (by omega)⟩

set_option maxHeartbeats 400000 in
theorem l1Odd_any (w : World) (g : Nat) (hc : Cur w g) : Calls Tryd.prog 68 #[.pointer (some ⟨g, 0, none⟩)] w fun e w' => ∃ x : Int, -9223372036854775808 ≤ x ∧ x ≤ 9223372036854775807 ∧ e = .returned (.int .i64 x) ∧ Draws g w w' := by
  have hd := Draws.refl hc
  go_enter Tryd.func68, Tryd.ntmps68
  go_wp2_with (fail)
  go_at_call 48
  refine (l1Int_any _ g (hd.alloc _).2 _ 14 [-1, 0, 1, 2, 255, 256, 65535, 2147483647, 2147483648, 4294967295, 4294967296, -2147483648, 9223372036854775807, -9223372036854775808] (by have := hd.lt; omega) (by omega) (by omega) rfl (fun j v h => alloc_vals _ _ _ j v h) (alloc_lt _ _)).mono ?_
  rintro e w1 ⟨z, hz, rfl, d⟩
  replace hd := (hd.alloc _).trans d
  have hzb : -9223372036854775808 ≤ z ∧ z ≤ 9223372036854775807 := by simp at hz; omega
  clear d hz
  go_wp2
  go_ret
  exact ⟨z, by omega, by omega, rfl, hd⟩

set_option maxHeartbeats 400000 in
theorem l1Num_any (w : World) (g : Nat) (hc : Cur w g) : Calls Tryd.prog 30 #[.pointer (some ⟨g, 0, none⟩)] w fun e w' => ∃ x : Int, 0 ≤ x ∧ x ≤ 1000000000000 ∧ e = .returned (.int .i64 x) ∧ Draws g w w' := by
  have hd := Draws.refl hc
  go_enter Tryd.func30, Tryd.ntmps30
  go_wp2_with (fail)
  go_at_call 47
  refine (l1Below_any _ g hd.2 4 (by omega) (by omega)).mono ?_
  rintro e w1 ⟨x, hx1, hx2, rfl, d⟩
  replace hd := hd.trans d
  clear d
  by_cases c0 : x = 0
  · subst c0
    go_wp2_with (fail)
    go_at_call 47
    refine (l1Below_any _ g hd.2 2000 (by omega) (by omega)).mono ?_
    rintro e w1 ⟨y, hy1, hy2, rfl, d⟩
    replace hd := hd.trans d
    clear d
    go_wp2
    go_ret
    exact ⟨y, by omega, by omega, rfl, hd⟩
  · have e0 : (x == 0) = false := by simpa using c0
    by_cases c1 : x = 1
    · subst c1
      go_wp2_with (fail)
      go_at_call 48
      refine (l1Int_any _ g (hd.alloc _).2 _ 7 [0, 1, 127, 128, 2147483646, 2147483647, 1000000000000] (by have := hd.lt; omega) (by omega) (by omega) rfl (fun j v h => alloc_vals _ _ _ j v h) (alloc_lt _ _)).mono ?_
      rintro e w1 ⟨z, hz, rfl, d⟩
      replace hd := (hd.alloc _).trans d
      have hzb : 0 ≤ z ∧ z ≤ 1000000000000 := by simp at hz; omega
      clear d hz
      go_wp2
      go_ret
      exact ⟨z, by omega, by omega, rfl, hd⟩
    · have e1 : (x == 1) = false := by simpa using c1
      by_cases c2 : x = 2
      · subst c2
        go_wp2_with (fail)
        go_at_call 47
        refine (l1Below_any _ g hd.2 1000000 (by omega) (by omega)).mono ?_
        rintro e w1 ⟨y, hy1, hy2, rfl, d⟩
        replace hd := hd.trans d
        clear d
        go_wp2_with (fail)
        go_at_call 47
        refine (l1Below_any _ g hd.2 1000000 (by omega) (by omega)).mono ?_
        rintro e w1 ⟨z, hz1, hz2, rfl, d⟩
        replace hd := hd.trans d
        clear d
        have hq := mul_in (a := 1000000) (b := 1000000) hy1 hy2 hz1 hz2
        simp at hq
        go_wp2
        go_ret
        exact ⟨y * z, by omega, by omega, rfl, hd⟩
      · have e2 : (x == 2) = false := by simpa using c2
        go_wp2_with (fail)
        go_at_call 47
        refine (l1Below_any _ g hd.2 20 (by omega) (by omega)).mono ?_
        rintro e w1 ⟨y, hy1, hy2, rfl, d⟩
        replace hd := hd.trans d
        clear d
        go_wp2
        go_ret
        exact ⟨y, by omega, by omega, rfl, hd⟩

set_option maxHeartbeats 400000 in
theorem l1Raw_any (w : World) (g : Nat) (hc : Cur w g) : Calls Tryd.prog 51 #[.pointer (some ⟨g, 0, none⟩)] w fun e w' => ∃ x : Int, -9223372036854775808 ≤ x ∧ x ≤ 9223372036854775807 ∧ e = .returned (.int .i64 x) ∧ Draws g w w' := by
  have hd := Draws.refl hc
  go_enter Tryd.func51, Tryd.ntmps51
  go_wp2_with (fail)
  go_at_call 28
  refine (l1Once_any _ g hd.2 2 (by omega) (by omega)).mono ?_
  rintro e w1 ⟨b, rfl, d⟩
  replace hd := hd.trans d
  clear d
  cases b
  · go_wp2_with (fail)
    go_at_call 48
    refine (l1Int_any _ g (hd.alloc _).2 _ 3 [-1, 1000000000000, 1000000000001] (by have := hd.lt; omega) (by omega) (by omega) rfl (fun j v h => alloc_vals _ _ _ j v h) (alloc_lt _ _)).mono ?_
    rintro e w1 ⟨z, hz, rfl, d⟩
    replace hd := (hd.alloc _).trans d
    have hzb : -9223372036854775808 ≤ z ∧ z ≤ 9223372036854775807 := by simp at hz; omega
    clear d hz
    go_wp2
    go_ret
    exact ⟨z, by omega, by omega, rfl, hd⟩
  · go_wp2_with (fail)
    go_at_call 68
    refine (l1Odd_any _ g hd.2).mono ?_
    rintro e w1 ⟨x, hx1, hx2, rfl, d⟩
    replace hd := hd.trans d
    clear d
    go_wp2
    go_ret
    exact ⟨x, by omega, by omega, rfl, hd⟩

set_option maxHeartbeats 400000 in
theorem l1One_any (w : World) (g : Nat) (hc : Cur w g) : Calls Tryd.prog 32 #[.pointer (some ⟨g, 0, none⟩)] w fun e w' => ∃ x : Int, -9223372036854775808 ≤ x ∧ x ≤ 9223372036854775807 ∧ e = .returned (.int .i64 x) ∧ Draws g w w' := by
  have hd := Draws.refl hc
  go_enter Tryd.func32, Tryd.ntmps32
  go_wp2_with (fail)
  go_at_call 28
  refine (l1Once_any _ g hd.2 6 (by omega) (by omega)).mono ?_
  rintro e w1 ⟨b, rfl, d⟩
  replace hd := hd.trans d
  clear d
  cases b
  · go_wp2_with (fail)
    go_at_call 30
    refine (l1Num_any _ g hd.2).mono ?_
    rintro e w1 ⟨x, hx1, hx2, rfl, d⟩
    replace hd := hd.trans d
    clear d
    go_wp2
    go_ret
    exact ⟨x, by omega, by omega, rfl, hd⟩
  · go_wp2_with (fail)
    go_at_call 51
    refine (l1Raw_any _ g hd.2).mono ?_
    rintro e w1 ⟨x, hx1, hx2, rfl, d⟩
    replace hd := hd.trans d
    clear d
    go_wp2
    go_ret
    exact ⟨x, by omega, by omega, rfl, hd⟩


end Go.Proofs.YtmfaihelphfbgaaDoor
