/-
  Contracts of the encoding and hashing functions, of the program and of the reference. Conditions: lengths at most 2^40, integers of 64 bits.
-/
import Derived.Test.YtifghjkiodnehaaByt
import Derived.Test.YtifghjkiodnehaaPla
namespace Go.Proofs.Ytifghjkiodnehaa
set_option linter.unusedVariables false
set_option maxRecDepth 100000
open Go.ChangeShapes Go.WideShapes Go.ChangeAt Go.RowKit Go.Deep

theorem row_u8 : RowT Try.prog 22 5 1 1 := RowT.mk' Try.underlying22 info_u8 rfl (by omega)
theorem row_i64 : RowT Try.prog 28 3 1 8 := RowT.mk' Try.underlying28 info_i64 rfl (by omega)

theorem copyBytes_any {A : Option Addr} {n c : Nat} {xs : List Int} (w : World) (hx : Reads w w.heap.size 1 A n (xs.map (Value.int .u8))) (hn : n ≤ 1099511627776) :
    Calls Try.prog 35 #[.slice A n c] w (GotRow w 5 1 n (xs.map (Value.int .u8))) := by
  have h0 := own_empty w 5 1
  have hx1 := hx.over (Nat.le_refl _) (.cells #[] 5)
  clear hx
  go_enter Try.func35, Try.ntmps35
  go_wp2_with (at_builtin; refine wpList_app row_u8 rfl _ _ rfl w.heap.size _ 0 0 [] rfl h0 w.heap.size A n c (xs.map (Value.int .u8)) rfl hx1 (ints_one _ _) n (xs.map (Value.int .u8)) (by omega) rfl ⟨by omega, by omega⟩ (by simp) ?_; intro A1 c1 w1 ho hb)
  go_ret
  exact ⟨_, _, rfl, Own.of_row ho, ((Below.refl _ w).alloc (Nat.le_refl _) _).trans hb⟩

set_option maxHeartbeats 400000 in
theorem hash_impl {A : Option Addr} {n c : Nat} {xs : List Int} (w : World) (hx : Reads w w.heap.size 1 A n (xs.map (Value.int .i64))) (hn : n ≤ 1099511627776) (hz : ∀ z ∈ xs, -9223372036854775808 ≤ z ∧ z ≤ 9223372036854775807) :
    Calls Try.prog 14 #[.slice A n c] w fun e w' => e = .returned (.int .i64 (hashZ xs)) ∧ w = w' := by
  have lx : Hid (xs.length = n) := by show xs.length = n; simpa using hx.1
  go_enter Try.func14, Try.ntmps14
  go_wp2
  go_loop [3, 8] (fun p i => ∃ k : Nat, k ≤ n ∧ i = .int .i64 k ∧ p = .int .i64 (hashZ (xs.take k))) (fun _ i => n - (intOf i).toNat)
  case atStart => exact ⟨0, Nat.zero_le _, rfl, rfl⟩
  case round =>
    obtain ⟨k, hk, rfl, rfl⟩ := hrel
    by_cases hlt : k < n
    · obtain ⟨b0, off0, rfl, hab, hcx⟩ := hx.num hlt
      have hl1 : k < xs.length := by rw [lx.out]; exact hlt
      replace hcx := hcx hl1
      obtain ⟨hv1, hv2⟩ := hz xs[k] (List.getElem_mem _)
      obtain ⟨hb1, hb2⟩ := hashZ_bd (xs.take k)
      obtain ⟨hm1, hm2⟩ := mod31_bd xs[k]
      have hs : Hid (hashZ (xs.take (k + 1)) = (hashZ (xs.take k) * 1000003 + modZ xs[k] 2147483647 + 13) % 2147483647) := hash_take hl1
      generalize hashZ (xs.take k) = acc at *
      clear hx hz
      go_wp2_with (go_at_call 37; refine (mod_impl _ _ (by omega) (by omega) _).mono ?_; rintro e w' ⟨rfl, rfl⟩)
      go_round
      case rel => exact ⟨k + 1, by omega, by go_num, by rw [hs.out]⟩
      case measure => simp [intOf]; omega
    · obtain rfl : k = n := by omega
      have hr : Hid (hashZ (xs.take k) = hashZ xs) := by show _ = _; rw [List.take_of_length_le (by rw [lx.out]; exact Nat.le_refl _)]
      go_wp2
      go_ret
      exact ⟨ret_int hr.out, rfl⟩


set_option maxHeartbeats 400000 in
theorem keyedHash_impl {A : Option Addr} {n c : Nat} {xs : List Int} {key : Int} (w : World) (hx : Reads w w.heap.size 1 A n (xs.map (Value.int .i64))) (hn : n ≤ 1073741824) (hz : ∀ z ∈ xs, -9223372036854775808 ≤ z ∧ z ≤ 9223372036854775807)
    (h1 : -9223372036854775808 ≤ key) (h2 : key ≤ 9223372036854775807) :
    Calls Try.prog 13 #[.int .i64 key, .slice A n c] w fun e w' => e = .returned (.int .i64 (khZ key xs)) ∧ Below w.heap.size w w' := by
  have h0 := own_lit1 w 3 (.int .i64 key) w.heap.size (Nat.le_refl _)
  have hx1 := hx.over (Nat.le_refl _) (.cells #[.int .i64 key] 3)
  have hz' := kh_in h1 h2 hz
  clear hx hz
  go_enter Try.func13, Try.ntmps13
  go_wp2_with (first
    | (at_builtin
       refine wpList_app row_i64 rfl (.tmp 6) (.tmp 7) rfl w.heap.size _ 1 1 [.int .i64 key] rfl h0 w.heap.size A n c (xs.map (Value.int .i64)) rfl hx1 (ints_one _ _) (n + 1) (([key] ++ xs).map (Value.int .i64)) (by omega) (by simp) ⟨by omega, by omega⟩ (by simp) ?_
       intro A1 c1 w1 ho1 hb1
       have hz1 : w.heap.size ≤ w1.heap.size := by have := hb1.size; simp at this; omega
       have ho1' := ho1.alloc (.cells #[.int .i64 key] 3)
       have hr1 := Reads.one w1 (.int .i64 key) 3
       clear h0 hx1 ho1)
    | (at_builtin
       refine wpList_app row_i64 rfl (.tmp 8) (.tmp 10) rfl w.heap.size _ (n + 1) c1 _ rfl ho1' (w1.heap.size + 1) _ 1 1 [.int .i64 key] rfl hr1 (int_one _ _) (n + 2) (([key] ++ xs ++ [key]).map (Value.int .i64)) (by omega) (by simp) ⟨by omega, by omega⟩ (by simp; omega) ?_
       intro A2 c2 w2 ho2 hb2
       have hr2 := Reads.of_own ho2
       clear ho1' hr1 ho2)
    | (go_at_call 14; refine (hash_impl _ hr2 (by omega) hz').mono ?_; rintro e w' ⟨rfl, rfl⟩))
  go_ret
  exact ⟨rfl, (((Below.refl _ _).alloc (Nat.le_refl _) _).trans hb1).trans (((Below.refl _ _).alloc hz1 _).trans hb2)⟩


set_option maxHeartbeats 1000000 in
theorem appendUvarint_impl {A : Option Addr} {n c : Nat} {xs : List Int} {q : Int} (w : World) (hx : Reads w w.heap.size 1 A n (xs.map (Value.int .u8))) (hn : n ≤ 1073741824) :
    Calls Try.prog 27 #[.slice A n c, .int .i64 q] w (GotRow w 5 1 (appU xs q).length ((appU xs q).map (Value.int .u8))) := by
  have lx : Hid (xs.length = n) := by show xs.length = n; simpa using hx.1
  cases hq : inR q 0 1000000000000
  · go_enter Try.func27, Try.ntmps27
    go_wp2_with (first
      | (go_at_call 35; refine (copyBytes_any _ hx (by omega)).mono ?_; rintro e w1 ⟨A1, c1, rfl, o1, b1⟩)
      | (go_at_call 40; refine (inRange_impl _ _ _ _).mono ?_; rintro e w' ⟨rfl, rfl⟩))
    go_ret
    exact GotRow.of (by rw [appU_no hq, lx.out]) (by rw [appU_no hq]) o1.1 b1
  · obtain ⟨q0, q1⟩ := inR_true hq
    go_enter Try.func27, Try.ntmps27
    go_wp2_with (first
      | (go_at_call 35; refine (copyBytes_any _ hx (by omega)).mono ?_; rintro e w1 ⟨A1, c1, rfl, o1, b1⟩)
      | (go_at_call 40; refine (inRange_impl _ _ _ _).mono ?_; rintro e w' ⟨rfl, rfl⟩))
    go_loopw [1, 5] (fun p v wr => ∃ (m : Int) (A' : Option Addr) (k c' : Nat) (cur : List Int), p = .int .i64 m ∧ v = .slice A' k c' ∧ wr.ownsRow w.heap.size 5 1 (.slice A' k c') k (cur.map (Value.int .u8)) ∧
        0 ≤ m ∧ m ≤ 1000000000000 ∧ k ≤ n + 6 ∧ Hid (cur.length = k ∧ cur ++ uv m = xs ++ uv q) ∧ Below w.heap.size w wr) (fun p _ _ => (intOf p).toNat)
    case atStart => exact ⟨q, A1, n, c1, xs, rfl, rfl, o1.1, q0, q1, by omega, ⟨lx.out, rfl⟩, b1⟩
    case round =>
      obtain ⟨m, A', k, c', cur, rfl, rfl, hown, hm0, hm1, hk, hcur, hbel⟩ := hrel
      have hz1 : w.heap.size ≤ wr.heap.size := hbel.size
      by_cases h128 : 128 ≤ m
      · have ho1 := hown.alloc (.cells #[.int .u8 (m % 128 + 128)] 5)
        have hr1 := Reads.one wr (.int .u8 (m % 128 + 128)) 5
        have hc2 : Hid ((cur ++ [m % 128 + 128]).length = k + 1 ∧ (cur ++ [m % 128 + 128]) ++ uv (m / 128) = xs ++ uv q) := ⟨by simp [hcur.out.1], uv_step hcur.out.2 h128 hm1⟩
        have hk2 : k + 1 ≤ n + 6 := by have := uv_room hc2.out.2; have := hc2.out.1; have := lx.out; omega
        clear hown hcur hx o1
        go_wp2_with (at_builtin; refine wpList_app row_u8 rfl (.tmp 14) (.tmp 19) rfl w.heap.size A' k c' _ rfl ho1 (wr.heap.size + 1) _ 1 1 [.int .u8 (m % 128 + 128)] rfl hr1 (int_one _ _) (k + 1) ((cur ++ [m % 128 + 128]).map (Value.int .u8)) (by omega) (by simp) ⟨by omega, by omega⟩ (by simp; omega) ?_; intro A2 c2 w2 ho2 hb2)
        go_roundw
        case rel => exact ⟨m / 128, A2, k + 1, c2, _, rfl, rfl, ho2, by omega, by omega, hk2, hc2, (hbel.alloc hz1 _).trans hb2⟩
        case measure => simp [intOf]; omega
      · have h127 : m < 128 := by omega
        have ho1 := hown.alloc (.cells #[.int .u8 m] 5)
        have hr1 := Reads.one wr (.int .u8 m) 5
        have hc2 : Hid ((cur ++ [m]).length = k + 1 ∧ cur ++ [m] = appU xs q) := ⟨by simp [hcur.out.1], by rw [appU_yes hq]; exact uv_fin hcur.out.2 h127⟩
        clear hown hcur hx o1
        go_wp2_with (at_builtin; refine wpList_app row_u8 rfl (.tmp 23) (.tmp 26) rfl w.heap.size A' k c' _ rfl ho1 (wr.heap.size + 1) _ 1 1 [.int .u8 m] rfl hr1 (int_one _ _) (k + 1) ((cur ++ [m]).map (Value.int .u8)) (by omega) (by simp) ⟨by omega, by omega⟩ (by simp; omega) ?_; intro A2 c2 w2 ho2 hb2)
        go_ret
        exact GotRow.of (by rw [← hc2.out.2, hc2.out.1]) (by rw [hc2.out.2]) ho2 ((hbel.alloc hz1 _).trans hb2)
end Go.Proofs.Ytifghjkiodnehaa
