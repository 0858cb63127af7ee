/-
  Contracts of the functions that copy, compare, mark and look at []byte and []int. Conditions: the lengths are at most 2^40.
-/
import Derived.Test.YtflcknknkekkfaaTwo
namespace Go.Proofs.Ytflcknknkekkfaa
set_option linter.unusedVariables false
set_option maxRecDepth 100000
open Go.ChangeShapes Go.WideShapes Go.ChangeAt Go.RowKit Go.Deep

theorem info_u8 : (Try.prog.info? 5).map (fun i => (i.zero, i.size, i.bytes)) = some (some (.int .u8 0), 1, 1) := by kernel_rfl
theorem info_i64 : (Try.prog.info? 3).map (fun i => (i.zero, i.size, i.bytes)) = some (some (.int .i64 0), 1, 8) := by kernel_rfl


set_option maxHeartbeats 400000 in
theorem toIntS_any {A : Option Addr} {n c : Nat} {xs : List Int} (w : World) (hx : Reads w w.heap.size 1 A n (xs.map (Value.int .i64)))
    (hn : n ≤ 1099511627776) : Calls Try.prog 79 #[.slice A n c] w (GotRow w 3 1 n (xs.map (Value.int .i64))) := by
  have hmk := fun W => run_make_row' (P := Try.prog) 50 3 (.int .i64 0) 8 Try.underlying50 info_i64 rfl .i64 .i64 n (by omega) (by omega) W
  have lx : Hid (xs.length = n) := by show xs.length = n; simpa using hx.1
  go_enter Try.func79, Try.ntmps79
  go_wp2
  go_loopw [4] (fun i wr => ∃ k : Nat, k ≤ n ∧ i = .int .i64 k ∧ ∃ cur : List Value, wr.ownsRow w.heap.size 3 1 (.slice (some ⟨w.heap.size, 0, none⟩) n n) n cur ∧ Hid (cur.take k = (xs.map (Value.int .i64)).take k) ∧ Below w.heap.size w wr)
    (fun i _ => n - (intOf i).toNat)
  case atStart =>
    exact ⟨0, Nat.zero_le _, rfl, _, World.ownsRow_lit w _ n (Nat.le_refl _) (by simp only [maxLen]; omega) (by rw [size_madeCells, Nat.mul_one]), by simp [Hid], (Below.refl _ _).alloc (Nat.le_refl _) _⟩
  case round =>
    obtain ⟨k, hk, rfl, cur, hown, hall, hbel⟩ := hrel
    by_cases hlt : k < n
    · obtain ⟨b0, off0, rfl, hab, hcx⟩ := (hx.below hbel).num hlt
      have hl1 : k < xs.length := by rw [lx.out]; exact hlt
      replace hcx := hcx hl1
      obtain ⟨u, hu, hfr⟩ := own_cell hown (show k < n by omega)
      have hs := hown.stored k (.int .i64 xs[k])
      have hn1 : Hid ((cur.set k (.int .i64 xs[k])).take (k + 1) = (xs.map (Value.int .i64)).take (k + 1)) := by
        have h9 := take_set_succ (xs := xs.map (Value.int .i64)) hall.out (by simpa using hl1) (by have := hown.1; omega)
        simp only [List.getElem_map] at h9
        exact h9
      have hb2 := hbel.setCell (p := ⟨w.heap.size, k, none⟩) (Nat.le_refl _) (.int .i64 xs[k])
      clear hx hall hbel hown hmk
      go_wp2
      go_roundw
      case rel => exact ⟨k + 1, by omega, by go_num, _, hs.1, hn1, hb2⟩
      case measure => simp [intOf]; omega
    · obtain rfl : k = n := by omega
      have he : cur = xs.map (Value.int .i64) := by
        have h1 := hall.out
        rw [List.take_of_length_le (by have := hown.1; omega), List.take_of_length_le (by rw [List.length_map, lx.out]; exact Nat.le_refl _)] at h1
        exact h1
      subst he
      clear hmk hall
      go_wp2
      go_ret
      exact ⟨_, _, rfl, Own.of_row hown, hbel⟩


set_option maxHeartbeats 400000 in
theorem eqIntS_any {A A' : Option Addr} {n n' c c' : Nat} {xs ys : List Int} (w : World) (hx : Reads w w.heap.size 1 A n (xs.map (Value.int .i64))) (hy : Reads w w.heap.size 1 A' n' (ys.map (Value.int .i64)))
    (hn : n ≤ 1099511627776) : Calls Try.prog 71 #[.slice A n c, .slice A' n' c'] w fun e w' => e = .returned (.bool (eqL xs ys)) ∧ Below w.heap.size w w' := by
  have lx : xs.length = n := by simpa using hx.1
  have ly : ys.length = n' := by simpa using hy.1
  by_cases hnn : n = n'
  · subst hnn
    have Lx := Lib.hid lx
    have Ly := Lib.hid ly
    clear lx ly
    go_enter Try.func71, Try.ntmps71
    go_wp2
    go_loopw [5] (fun i wr => ∃ k : Nat, k ≤ n ∧ i = .int .i64 k ∧ Hid (xs.take k = ys.take k) ∧ Below w.heap.size w wr) (fun i _ => n - (intOf i).toNat)
    case atStart => exact ⟨0, Nat.zero_le _, rfl, rfl, Below.refl _ _⟩
    case round =>
      obtain ⟨k, hk, rfl, hall, hbel⟩ := hrel
      by_cases hlt : k < n
      · obtain ⟨b0, off0, rfl, hab, hcx⟩ := (hx.below hbel).num hlt
        obtain ⟨b1, off1, rfl, hab', hcy⟩ := (hy.below hbel).num hlt
        have hl1 : k < xs.length := by rw [Lx.out]; exact hlt
        have hl2 : k < ys.length := by rw [Ly.out]; exact hlt
        replace hcx := hcx hl1
        replace hcy := hcy hl2
        by_cases he : xs[k] = ys[k]
        · have hn1 : Hid (xs.take (k + 1) = ys.take (k + 1)) := take_succ_eq hl1 hl2 hall.out he
          rw [← he] at hcy
          clear he hall hx hy
          go_wp2_with fail
          go_quiet (fail)
          go_wp2
          go_roundw
          case rel => exact ⟨k + 1, by omega, by go_num, hn1, below_drewN hbel _⟩
          case measure => simp [intOf]; omega
        · have hne : (xs[k] != ys[k]) = true := by simpa using he
          have hres : Hid (eqL xs ys = false) := eqL_false hl1 hl2 he
          clear he hall hx hy
          go_wp2_with fail
          go_quiet (fail)
          go_wp2
          go_ret
          exact ⟨ret_bool hres.out.symm, below_drewN hbel _⟩
      · obtain rfl : k = n := by omega
        have hres : Hid (eqL xs ys = true) := eqL_true Lx.out Ly.out hall.out
        go_wp2
        go_ret
        exact ⟨ret_bool hres.out.symm, hbel⟩
  · have hres : Hid (eqL xs ys = false) := eqL_len (by omega)
    have hne : ((n : Int) != (n' : Int)) = true := by rw [bne_iff_ne]; omega
    clear lx ly
    go_enter Try.func71, Try.ntmps71
    go_wp2
    go_ret
    exact ⟨ret_bool hres.out.symm, Below.refl _ _⟩

set_option maxHeartbeats 400000 in
theorem equalInts_spec {A A' : Option Addr} {n n' c c' : Nat} {xs ys : List Int} (w : World) (hx : Reads w w.heap.size 1 A n (xs.map (Value.int .i64))) (hy : Reads w w.heap.size 1 A' n' (ys.map (Value.int .i64)))
    (hn : n ≤ 1099511627776) : Calls Try.prog 80 #[.slice A n c, .slice A' n' c'] w fun e w' => e = .returned (.bool (eqL xs ys)) ∧ Below w.heap.size w w' := by
  have lx : xs.length = n := by simpa using hx.1
  have ly : ys.length = n' := by simpa using hy.1
  by_cases hnn : n = n'
  · subst hnn
    have Lx := Lib.hid lx
    have Ly := Lib.hid ly
    clear lx ly
    go_enter Try.func80, Try.ntmps80
    go_wp2
    go_loopw [5] (fun i wr => ∃ k : Nat, k ≤ n ∧ i = .int .i64 k ∧ Hid (xs.take k = ys.take k) ∧ Below w.heap.size w wr) (fun i _ => n - (intOf i).toNat)
    case atStart => exact ⟨0, Nat.zero_le _, rfl, rfl, Below.refl _ _⟩
    case round =>
      obtain ⟨k, hk, rfl, hall, hbel⟩ := hrel
      by_cases hlt : k < n
      · obtain ⟨b0, off0, rfl, hab, hcx⟩ := (hx.below hbel).num hlt
        obtain ⟨b1, off1, rfl, hab', hcy⟩ := (hy.below hbel).num hlt
        have hl1 : k < xs.length := by rw [Lx.out]; exact hlt
        have hl2 : k < ys.length := by rw [Ly.out]; exact hlt
        replace hcx := hcx hl1
        replace hcy := hcy hl2
        by_cases he : xs[k] = ys[k]
        · have hn1 : Hid (xs.take (k + 1) = ys.take (k + 1)) := take_succ_eq hl1 hl2 hall.out he
          rw [← he] at hcy
          clear he hall hx hy
          go_wp2_with fail
          go_quiet (fail)
          go_wp2
          go_roundw
          case rel => exact ⟨k + 1, by omega, by go_num, hn1, below_drewN hbel _⟩
          case measure => simp [intOf]; omega
        · have hne : (xs[k] != ys[k]) = true := by simpa using he
          have hres : Hid (eqL xs ys = false) := eqL_false hl1 hl2 he
          clear he hall hx hy
          go_wp2_with fail
          go_quiet (fail)
          go_wp2
          go_ret
          exact ⟨ret_bool hres.out.symm, below_drewN hbel _⟩
      · obtain rfl : k = n := by omega
        have hres : Hid (eqL xs ys = true) := eqL_true Lx.out Ly.out hall.out
        go_wp2
        go_ret
        exact ⟨ret_bool hres.out.symm, hbel⟩
  · have hres : Hid (eqL xs ys = false) := eqL_len (by omega)
    have hne : ((n : Int) != (n' : Int)) = true := by rw [bne_iff_ne]; omega
    clear lx ly
    go_enter Try.func80, Try.ntmps80
    go_wp2
    go_ret
    exact ⟨ret_bool hres.out.symm, Below.refl _ _⟩


set_option maxHeartbeats 400000 in
theorem slicesEqual_ints {A A' : Option Addr} {n n' c c' : Nat} {xs ys : List Int} (w : World) (hx : Reads w w.heap.size 1 A n (xs.map (Value.int .i64))) (hy : Reads w w.heap.size 1 A' n' (ys.map (Value.int .i64)))
    (hn : n ≤ 1099511627776) : Calls Try.prog 84 #[.slice A n c, .slice A' n' c'] w fun e w' => e = .returned (.bool (eqL xs ys)) ∧ Below w.heap.size w w' := by
  have lx : xs.length = n := by simpa using hx.1
  have ly : ys.length = n' := by simpa using hy.1
  by_cases hnn : n = n'
  · subst hnn
    have Lx := Lib.hid lx
    have Ly := Lib.hid ly
    clear lx ly
    go_enter Try.func84, Try.ntmps84
    go_wp2
    go_loopw [13] (fun i wr => ∃ k : Nat, k ≤ n ∧ i = .int .i64 k ∧ Hid (xs.take k = ys.take k) ∧ Below w.heap.size w wr) (fun i _ => n - (intOf i).toNat)
    case atStart => exact ⟨0, Nat.zero_le _, rfl, rfl, Below.refl _ _⟩
    case round =>
      obtain ⟨k, hk, rfl, hall, hbel⟩ := hrel
      by_cases hlt : k < n
      · obtain ⟨b0, off0, rfl, hab, hcx⟩ := (hx.below hbel).num hlt
        obtain ⟨b1, off1, rfl, hab', hcy⟩ := (hy.below hbel).num hlt
        have hl1 : k < xs.length := by rw [Lx.out]; exact hlt
        have hl2 : k < ys.length := by rw [Ly.out]; exact hlt
        replace hcx := hcx hl1
        replace hcy := hcy hl2
        by_cases he : xs[k] = ys[k]
        · have hn1 : Hid (xs.take (k + 1) = ys.take (k + 1)) := take_succ_eq hl1 hl2 hall.out he
          rw [← he] at hcy
          clear he hall hx hy
          go_wp2_with fail
          go_quiet (fail)
          go_wp2
          go_roundw
          case rel => exact ⟨k + 1, by omega, by go_num, hn1, below_drewN hbel _⟩
          case measure => simp [intOf]; omega
        · have hne : (xs[k] != ys[k]) = true := by simpa using he
          have hres : Hid (eqL xs ys = false) := eqL_false hl1 hl2 he
          clear he hall hx hy
          go_wp2_with fail
          go_quiet (fail)
          go_wp2
          go_ret
          exact ⟨ret_bool hres.out.symm, below_drewN hbel _⟩
      · obtain rfl : k = n := by omega
        have hres : Hid (eqL xs ys = true) := eqL_true Lx.out Ly.out hall.out
        go_wp2
        go_ret
        exact ⟨ret_bool hres.out.symm, hbel⟩
  · have hres : Hid (eqL xs ys = false) := eqL_len (by omega)
    have hne : ((n : Int) != (n' : Int)) = true := by rw [bne_iff_ne]; omega
    clear lx ly
    go_enter Try.func84, Try.ntmps84
    go_wp2
    go_ret
    exact ⟨ret_bool hres.out.symm, Below.refl _ _⟩




set_option maxHeartbeats 400000 in
theorem markIntS_any {lo hi : Nat} {A : Option Addr} {n c : Nat} {xs : List Value} {q : Int} (w : World) (hx : Own w lo hi 3 1 (.slice A n c) n xs) (hh : hi ≤ w.heap.size)
    (hn : n ≤ 1099511627776) (q0 : 0 ≤ q) (q1 : q ≤ 1099511627776) : Calls Try.prog 73 #[.slice A n c, .int .i64 q] w
      (Marked w lo hi (fun w' => Own w' lo hi 3 1 (.slice A n c) n ((marks .i64 q n).map (Value.int .i64))) (q + n)) := by
  rcases Nat.eq_zero_or_pos n with h0 | h0
  · subst h0
    have hm : xs = [] := List.eq_nil_of_length_eq_zero (by simpa using hx.len)
    subst hm
    go_enter Try.func73, Try.ntmps73
    go_wp2
    refine wp_loop_rounds 1 ?_
    rw [rounds_succ]
    go_wp2
    go_ret
    exact ⟨ret_int (by simp), by simpa [marks] using hx, Keeps.refl _ _⟩
  · obtain ⟨g, cap, hv, hg1, hg2⟩ := hx.1.form h0
    obtain ⟨rfl, rfl⟩ : A = some ⟨g, 0, none⟩ ∧ c = cap := by injection hv with h1 _ h2; exact ⟨h1, h2⟩
    have hg3 : g < hi := hx.2 g rfl
    obtain ⟨hx1, hx2⟩ := hx
    clear hv
    go_enter Try.func73, Try.ntmps73
    go_wp2
    go_loopw [1, 5] (fun p i wr => ∃ k : Nat, k ≤ n ∧ i = .int .i64 k ∧ p = .int .i64 (q + k) ∧ ∃ cur : List Value, wr.ownsRow lo 3 1 (.slice (some ⟨g, 0, none⟩) n c) n cur ∧ Hid (cur.take k = ((marks .i64 q n).map (Value.int .i64)).take k) ∧ Keeps (Span lo hi) w wr)
      (fun _ i _ => n - (intOf i).toNat)
    case atStart => exact ⟨0, Nat.zero_le _, rfl, by simp, xs, hx1, by simp [Hid], Keeps.refl _ _⟩
    case round =>
      obtain ⟨k, hk, rfl, rfl, cur, hown, hall, hbel⟩ := hrel
      by_cases hlt : k < n
      · obtain ⟨u, hu, hfr⟩ := own_cell hown hlt
        have hs := hown.stored k (.int .i64 (mk1 .i64 q k))
        have hn1 : Hid ((cur.set k (.int .i64 (mk1 .i64 q k))).take (k + 1) = ((marks .i64 q n).map (Value.int .i64)).take (k + 1)) := by
          have h9 := take_set_succ (xs := (marks .i64 q n).map (Value.int .i64)) hall.out (by simpa using hlt) (by have := hown.1; omega)
          simp only [List.getElem_map, marks_get] at h9
          exact h9
        have hb2 := hbel.trans (keeps_set wr (p := ⟨g, k, none⟩) (.int .i64 (mk1 .i64 q k)) ⟨hg1, hg3⟩)
        have hw := mk1_i64 q k q0 (by omega)
        clear hx1 hx2 hall hbel hown
        go_wp2
        go_roundw
        case rel => exact ⟨k + 1, by omega, by go_num, by go_num, _, hs.1, hn1, hb2⟩
        case measure => simp [intOf]; omega
      · obtain rfl : k = n := by omega
        have he : cur = (marks .i64 q k).map (Value.int .i64) := by
          have h1 := hall.out
          rw [List.take_of_length_le (by have := hown.1; omega), List.take_of_length_le (by simp)] at h1
          exact h1
        subst he
        clear hall hx1
        go_wp2
        go_ret
        exact ⟨rfl, ⟨hown, hx2⟩, hbel⟩


set_option maxHeartbeats 400000 in
theorem heldIntS_any {A : Option Addr} {n c : Nat} {q : Int} (w : World) (hx : Reads w w.heap.size 1 A n ((marks .i64 q n).map (Value.int .i64)))
    (hn : n ≤ 1099511627776) (q0 : 0 ≤ q) (q1 : q ≤ 1099511627776) : Calls Try.prog 75 #[.slice A n c, .int .i64 q] w fun e w' => e = .returned (.int .i64 (q + n)) ∧ Below w.heap.size w w' := by
  go_enter Try.func75, Try.ntmps75
  go_wp2
  go_loopw [1, 5] (fun p i wr => ∃ k : Nat, k ≤ n ∧ i = .int .i64 k ∧ p = .int .i64 (q + k) ∧ Below w.heap.size w wr) (fun _ i _ => n - (intOf i).toNat)
  case atStart => exact ⟨0, Nat.zero_le _, rfl, by simp, Below.refl _ _⟩
  case round =>
    obtain ⟨k, hk, rfl, rfl, hbel⟩ := hrel
    by_cases hlt : k < n
    · obtain ⟨b0, off0, rfl, hab, hcx⟩ := (hx.below hbel).num hlt
      replace hcx := hcx (by simpa using hlt)
      rw [marks_get] at hcx
      rw [← mk1_i64 q k q0 (by omega)] at hcx
      clear hx
      go_wp2
      go_roundw
      case rel => exact ⟨k + 1, by omega, by go_num, by go_num, hbel⟩
      case measure => simp [intOf]; omega
    · obtain rfl : k = n := by omega
      go_wp2
      go_ret
      exact ⟨rfl, hbel⟩
end Go.Proofs.Ytflcknknkekkfaa
