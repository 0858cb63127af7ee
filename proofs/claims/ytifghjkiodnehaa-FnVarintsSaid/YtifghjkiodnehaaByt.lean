/-
  Contracts of the functions that copy, compare, mark and look at []byte and []int. Conditions: the lengths are at most 2^40.
-/
import Derived.Test.YtifghjkiodnehaaTwo
namespace Go.Proofs.Ytifghjkiodnehaa
set_option linter.unusedVariables false
set_option maxRecDepth 100000
open Go.ChangeShapes Go.WideShapes Go.ChangeAt Go.RowKit Go.Deep

theorem info_u8 : (Try.prog.info? 5).map (fun i => (i.zero, i.size, i.bytes)) = some (some (.int .u8 0), 1, 1) := by kernel_rfl
theorem info_i64 : (Try.prog.info? 3).map (fun i => (i.zero, i.size, i.bytes)) = some (some (.int .i64 0), 1, 8) := by kernel_rfl








set_option maxHeartbeats 400000 in
theorem sameBytes_any {A A' : Option Addr} {n n' c c' : Nat} {xs ys : List Int} (w : World) (hx : Reads w w.heap.size 1 A n (xs.map (Value.int .u8))) (hy : Reads w w.heap.size 1 A' n' (ys.map (Value.int .u8)))
    (hn : n ≤ 1099511627776) : Calls Try.prog 9 #[.slice A n c, .slice A' n' c'] w fun e w' => e = .returned (.bool (eqL xs ys)) ∧ Below w.heap.size w w' := by
  have lx : xs.length = n := by simpa using hx.1
  have ly : ys.length = n' := by simpa using hy.1
  by_cases hnn : n = n'
  · subst hnn
    have Lx := Lib.hid lx
    have Ly := Lib.hid ly
    clear lx ly
    go_enter Try.func9, Try.ntmps9
    go_wp2
    go_loopw [5] (fun i wr => ∃ k : Nat, k ≤ n ∧ i = .int .i64 k ∧ Hid (xs.take k = ys.take k) ∧ Below w.heap.size w wr) (fun i _ => n - (intOf i).toNat)
    case atStart => exact ⟨0, Nat.zero_le _, rfl, rfl, Below.refl _ _⟩
    case round =>
      obtain ⟨k, hk, rfl, hall, hbel⟩ := hrel
      by_cases hlt : k < n
      · obtain ⟨b0, off0, rfl, hab, hcx⟩ := (hx.below hbel).num hlt
        obtain ⟨b1, off1, rfl, hab', hcy⟩ := (hy.below hbel).num hlt
        have hl1 : k < xs.length := by rw [Lx.out]; exact hlt
        have hl2 : k < ys.length := by rw [Ly.out]; exact hlt
        replace hcx := hcx hl1
        replace hcy := hcy hl2
        by_cases he : xs[k] = ys[k]
        · have hn1 : Hid (xs.take (k + 1) = ys.take (k + 1)) := take_succ_eq hl1 hl2 hall.out he
          rw [← he] at hcy
          clear he hall hx hy
          go_wp2_with fail
          go_quiet (fail)
          go_wp2
          go_roundw
          case rel => exact ⟨k + 1, by omega, by go_num, hn1, below_drewN hbel _⟩
          case measure => simp [intOf]; omega
        · have hne : (xs[k] != ys[k]) = true := by simpa using he
          have hres : Hid (eqL xs ys = false) := eqL_false hl1 hl2 he
          clear he hall hx hy
          go_wp2_with fail
          go_quiet (fail)
          go_wp2
          go_ret
          exact ⟨ret_bool hres.out.symm, below_drewN hbel _⟩
      · obtain rfl : k = n := by omega
        have hres : Hid (eqL xs ys = true) := eqL_true Lx.out Ly.out hall.out
        go_wp2
        go_ret
        exact ⟨ret_bool hres.out.symm, hbel⟩
  · have hres : Hid (eqL xs ys = false) := eqL_len (by omega)
    have hne : ((n : Int) != (n' : Int)) = true := by rw [bne_iff_ne]; omega
    clear lx ly
    go_enter Try.func9, Try.ntmps9
    go_wp2
    go_ret
    exact ⟨ret_bool hres.out.symm, Below.refl _ _⟩

set_option maxHeartbeats 400000 in
theorem sameInts_any {A A' : Option Addr} {n n' c c' : Nat} {xs ys : List Int} (w : World) (hx : Reads w w.heap.size 1 A n (xs.map (Value.int .i64))) (hy : Reads w w.heap.size 1 A' n' (ys.map (Value.int .i64)))
    (hn : n ≤ 1099511627776) : Calls Try.prog 25 #[.slice A n c, .slice A' n' c'] w fun e w' => e = .returned (.bool (eqL xs ys)) ∧ Below w.heap.size w w' := by
  have lx : xs.length = n := by simpa using hx.1
  have ly : ys.length = n' := by simpa using hy.1
  by_cases hnn : n = n'
  · subst hnn
    have Lx := Lib.hid lx
    have Ly := Lib.hid ly
    clear lx ly
    go_enter Try.func25, Try.ntmps25
    go_wp2
    go_loopw [5] (fun i wr => ∃ k : Nat, k ≤ n ∧ i = .int .i64 k ∧ Hid (xs.take k = ys.take k) ∧ Below w.heap.size w wr) (fun i _ => n - (intOf i).toNat)
    case atStart => exact ⟨0, Nat.zero_le _, rfl, rfl, Below.refl _ _⟩
    case round =>
      obtain ⟨k, hk, rfl, hall, hbel⟩ := hrel
      by_cases hlt : k < n
      · obtain ⟨b0, off0, rfl, hab, hcx⟩ := (hx.below hbel).num hlt
        obtain ⟨b1, off1, rfl, hab', hcy⟩ := (hy.below hbel).num hlt
        have hl1 : k < xs.length := by rw [Lx.out]; exact hlt
        have hl2 : k < ys.length := by rw [Ly.out]; exact hlt
        replace hcx := hcx hl1
        replace hcy := hcy hl2
        by_cases he : xs[k] = ys[k]
        · have hn1 : Hid (xs.take (k + 1) = ys.take (k + 1)) := take_succ_eq hl1 hl2 hall.out he
          rw [← he] at hcy
          clear he hall hx hy
          go_wp2_with fail
          go_quiet (fail)
          go_wp2
          go_roundw
          case rel => exact ⟨k + 1, by omega, by go_num, hn1, below_drewN hbel _⟩
          case measure => simp [intOf]; omega
        · have hne : (xs[k] != ys[k]) = true := by simpa using he
          have hres : Hid (eqL xs ys = false) := eqL_false hl1 hl2 he
          clear he hall hx hy
          go_wp2_with fail
          go_quiet (fail)
          go_wp2
          go_ret
          exact ⟨ret_bool hres.out.symm, below_drewN hbel _⟩
      · obtain rfl : k = n := by omega
        have hres : Hid (eqL xs ys = true) := eqL_true Lx.out Ly.out hall.out
        go_wp2
        go_ret
        exact ⟨ret_bool hres.out.symm, hbel⟩
  · have hres : Hid (eqL xs ys = false) := eqL_len (by omega)
    have hne : ((n : Int) != (n' : Int)) = true := by rw [bne_iff_ne]; omega
    clear lx ly
    go_enter Try.func25, Try.ntmps25
    go_wp2
    go_ret
    exact ⟨ret_bool hres.out.symm, Below.refl _ _⟩




end Go.Proofs.Ytifghjkiodnehaa
