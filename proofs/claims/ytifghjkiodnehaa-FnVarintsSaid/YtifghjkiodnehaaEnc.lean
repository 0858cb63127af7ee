/-
  Contracts of the encoding and decoding functions, of the program and of the reference. Conditions: lengths at most 2^27, bytes in 0 .. 255.
-/
import Derived.Test.YtifghjkiodnehaaCry
namespace Go.Proofs.Ytifghjkiodnehaa
set_option linter.unusedVariables false
set_option maxRecDepth 100000
open Go.ChangeShapes Go.WideShapes Go.ChangeAt Go.RowKit Go.Deep

set_option maxHeartbeats 1000000 in
theorem appendUvarint_spec {A : Option Addr} {n c : Nat} {xs : List Int} {q : Int} (w : World) (hx : Reads w w.heap.size 1 A n (xs.map (Value.int .u8))) (hn : n ≤ 1073741824) :
    Calls Try.prog 44 #[.slice A n c, .int .i64 q] w (GotRow w 5 1 (appU xs q).length ((appU xs q).map (Value.int .u8))) := by
  have lx : Hid (xs.length = n) := by show xs.length = n; simpa using hx.1
  have h0 := own_empty w 5 1
  have hx1 := hx.over (Nat.le_refl _) (.cells #[] 5)
  have hb0 : Below w.heap.size w (w.alloc (.cells #[] 5)) := (Below.refl _ w).alloc (Nat.le_refl _) _
  clear hx
  cases hq : inR q 0 1000000000000
  · go_enter Try.func44, Try.ntmps44
    go_wp2_with (first
      | (at_builtin; refine wpList_app row_u8 rfl (.tmp 6) (.tmp 7) rfl w.heap.size _ 0 0 [] rfl h0 w.heap.size A n c (xs.map (Value.int .u8)) rfl hx1 (ints_one _ _) n (xs.map (Value.int .u8)) (by omega) rfl ⟨by omega, by omega⟩ (by simp) ?_; intro A1 c1 w1 o1 b1)
      | (go_at_call 38; refine (inRange_spec _ _ _ _).mono ?_; rintro e w' ⟨rfl, rfl⟩))
    go_ret
    exact GotRow.of (by rw [appU_no hq, lx.out]) (by rw [appU_no hq]) o1 (hb0.trans b1)
  · obtain ⟨q0, q1⟩ := inR_true hq
    go_enter Try.func44, Try.ntmps44
    go_wp2_with (first
      | (at_builtin; refine wpList_app row_u8 rfl (.tmp 6) (.tmp 7) rfl w.heap.size _ 0 0 [] rfl h0 w.heap.size A n c (xs.map (Value.int .u8)) rfl hx1 (ints_one _ _) n (xs.map (Value.int .u8)) (by omega) rfl ⟨by omega, by omega⟩ (by simp) ?_; intro A1 c1 w1 o1 b1)
      | (go_at_call 38; refine (inRange_spec _ _ _ _).mono ?_; rintro e w' ⟨rfl, rfl⟩))
    go_loopw [1, 5] (fun p v wr => ∃ (m : Int) (A' : Option Addr) (k c' : Nat) (cur : List Int), p = .int .i64 m ∧ v = .slice A' k c' ∧ wr.ownsRow w.heap.size 5 1 (.slice A' k c') k (cur.map (Value.int .u8)) ∧
        0 ≤ m ∧ m ≤ 1000000000000 ∧ k ≤ n + 6 ∧ Hid (cur.length = k ∧ cur ++ uv m = xs ++ uv q) ∧ Below w.heap.size w wr) (fun p _ _ => (intOf p).toNat)
    case atStart => exact ⟨q, A1, n, c1, xs, rfl, rfl, o1, q0, q1, by omega, ⟨lx.out, rfl⟩, hb0.trans b1⟩
    case round =>
      obtain ⟨m, A', k, c', cur, rfl, rfl, hown, hm0, hm1, hk, hcur, hbel⟩ := hrel
      have hz1 : w.heap.size ≤ wr.heap.size := hbel.size
      by_cases h128 : 127 < m
      · have ha := and127 m hm0 (by omega)
        have ho := or128 (m % 128) (by omega) (by omega)
        have ho1 := hown.alloc (.cells #[.int .u8 (m % 128 + 128)] 5)
        have hr1 := Reads.one wr (.int .u8 (m % 128 + 128)) 5
        have hc2 : Hid ((cur ++ [m % 128 + 128]).length = k + 1 ∧ (cur ++ [m % 128 + 128]) ++ uv (m / 128) = xs ++ uv q) := ⟨by simp [hcur.out.1], uv_step hcur.out.2 (by omega) hm1⟩
        have hk2 : k + 1 ≤ n + 6 := by have := uv_room hc2.out.2; have := hc2.out.1; have := lx.out; omega
        clear hown hcur hx1 h0 o1
        go_wp2_with (at_builtin; refine wpList_app row_u8 rfl (.tmp 15) (.tmp 20) rfl w.heap.size A' k c' _ rfl ho1 (wr.heap.size + 1) _ 1 1 [.int .u8 (m % 128 + 128)] rfl hr1 (int_one _ _) (k + 1) ((cur ++ [m % 128 + 128]).map (Value.int .u8)) (by omega) (by simp) ⟨by omega, by omega⟩ (by simp; omega) ?_; intro A2 c2 w2 ho2 hb2)
        go_roundw
        case rel => exact ⟨m / 128, A2, k + 1, c2, _, by first | rfl | simp, rfl, ho2, by omega, by omega, hk2, hc2, (hbel.alloc hz1 _).trans hb2⟩
        case measure => simp [intOf]; omega
      · have h127 : m < 128 := by omega
        have ho1 := hown.alloc (.cells #[.int .u8 m] 5)
        have hr1 := Reads.one wr (.int .u8 m) 5
        have hc2 : Hid ((cur ++ [m]).length = k + 1 ∧ cur ++ [m] = appU xs q) := ⟨by simp [hcur.out.1], by rw [appU_yes hq]; exact uv_fin hcur.out.2 h127⟩
        clear hown hcur hx1 h0 o1
        go_wp2_with (at_builtin; refine wpList_app row_u8 rfl (.tmp 24) (.tmp 27) rfl w.heap.size A' k c' _ rfl ho1 (wr.heap.size + 1) _ 1 1 [.int .u8 m] rfl hr1 (int_one _ _) (k + 1) ((cur ++ [m]).map (Value.int .u8)) (by omega) (by simp) ⟨by omega, by omega⟩ (by simp; omega) ?_; intro A2 c2 w2 ho2 hb2)
        go_ret
        exact GotRow.of (by rw [← hc2.out.2, hc2.out.1]) (by rw [hc2.out.2]) ho2 ((hbel.alloc hz1 _).trans hb2)

set_option maxHeartbeats 400000 in
theorem appendBytes_impl {A A' : Option Addr} {n c m c' : Nat} {xs ds : List Int} (w : World) (hx : Reads w w.heap.size 1 A n (xs.map (Value.int .u8))) (hy : Reads w w.heap.size 1 A' m (ds.map (Value.int .u8))) (hn : n ≤ 134217728) (hm : m ≤ 134217728) :
    Calls Try.prog 21 #[.slice A n c, .slice A' m c'] w (GotRow w 5 1 (appB xs ds m).length ((appB xs ds m).map (Value.int .u8))) := by
  have hl := appU_len xs m
  have lx : xs.length = n := by simpa using hx.1
  have ly : ds.length = m := by simpa using hy.1
  have hN : Hid ((appU xs m).length + m = (appB xs ds m).length) := by show _ = _; rw [appB, List.length_append, ly]
  have hb : (appB xs ds m).length ≤ 1099511627776 := by have := hN.out; omega
  clear lx ly
  go_enter Try.func21, Try.ntmps21
  go_wp2_with (first
    | (go_at_call 27
       refine (appendUvarint_impl _ hx (by omega)).mono ?_
       rintro e w1 ⟨A1, c1, rfl, o1, b1⟩
       have hy1 := hy.below b1
       have ho1 := o1.1
       have hz1 := b1.size)
    | (at_builtin
       refine wpList_app row_u8 rfl (.tmp 8) (.tmp 10) rfl w.heap.size A1 _ c1 _ rfl ho1 w.heap.size A' m c' (ds.map (Value.int .u8)) rfl hy1 (ints_one _ _) _ ((appB xs ds m).map (Value.int .u8)) hN.out (by rw [appB, List.map_append]) ⟨hb, by omega⟩ hz1 ?_
       intro A2 c2 w2 ho2 hb2)
    | (at_builtin
       refine wpList_app row_u8 rfl (.tmp 8) (.tmp 9) rfl w.heap.size A1 _ c1 _ rfl ho1 w.heap.size A' m c' (ds.map (Value.int .u8)) rfl hy1 (ints_one _ _) _ ((appB xs ds m).map (Value.int .u8)) hN.out (by rw [appB, List.map_append]) ⟨hb, by omega⟩ hz1 ?_
       intro A2 c2 w2 ho2 hb2))
  go_ret
  exact GotRow.of rfl rfl ho2 (b1.trans hb2)


set_option maxHeartbeats 400000 in
theorem bytesToInts_impl {A : Option Addr} {n c : Nat} {xs : List Int} (w : World) (hx : Reads w w.heap.size 1 A n (xs.map (Value.int .u8))) (hn : n ≤ 134217728) (hz : ∀ z ∈ xs, 0 ≤ z ∧ z ≤ 255) :
    Calls Try.prog 41 #[.slice A n c] w (GotRow w 3 1 (n + 1) ((bti n xs n).map (Value.int .i64))) := by
  have lx : Hid (xs.length = n) := by show xs.length = n; simpa using hx.1
  have hb0 : Below w.heap.size w (w.alloc (.cells #[.int .i64 n] 3)) := (Below.refl _ w).alloc (Nat.le_refl _) _
  go_enter Try.func41, Try.ntmps41
  go_wp2
  go_loopw [3, 11] (fun v i wr => ∃ (k : Nat) (A' : Option Addr) (c' : Nat), k ≤ n ∧ i = .int .i64 k ∧ v = .slice A' (k + 1) c' ∧ wr.ownsRow w.heap.size 3 1 (.slice A' (k + 1) c') (k + 1) ((bti n xs k).map (Value.int .i64)) ∧ Below w.heap.size w wr)
    (fun _ i _ => n - (intOf i).toNat)
  case atStart => exact ⟨0, _, 1, Nat.zero_le _, rfl, rfl, own_lit1 w 3 (.int .i64 n) w.heap.size (Nat.le_refl _), hb0⟩
  case round =>
    obtain ⟨k, A', c', hk, rfl, rfl, hown, hbel⟩ := hrel
    have hz1 : w.heap.size ≤ wr.heap.size := hbel.size
    by_cases hlt : k < n
    · obtain ⟨b0, off0, rfl, hab, hcx⟩ := (hx.below hbel).num hlt
      have hl1 : k < xs.length := by rw [lx.out]; exact hlt
      replace hcx := hcx hl1
      obtain ⟨hv1, hv2⟩ := hz xs[k] (List.getElem_mem _)
      have ho1 := hown.alloc (.cells #[.int .i64 xs[k]] 3)
      have hr1 := Reads.one wr (.int .i64 xs[k]) 3
      have hs : Hid ((bti n xs k).map (Value.int .i64) ++ [.int .i64 xs[k]] = (bti n xs (k + 1)).map (Value.int .i64)) := by show _ = _; rw [bti_step hl1, List.map_append]; rfl
      clear hown hx hz
      go_wp2_with (at_builtin; refine wpList_app row_i64 rfl (.tmp 15) (.tmp 18) rfl w.heap.size A' (k + 1) c' _ rfl ho1 (wr.heap.size + 1) _ 1 1 [.int .i64 xs[k]] rfl hr1 (int_one _ _) (k + 1 + 1) _ (by omega) hs.out ⟨by omega, by omega⟩ (by simp; omega) ?_; intro A2 c2 w2 ho2 hb2)
      go_roundw
      case rel => exact ⟨k + 1, A2, c2, by omega, by go_num, rfl, ho2, (hbel.alloc hz1 _).trans hb2⟩
      case measure => simp [intOf]; omega
    · obtain rfl : k = n := by omega
      go_wp2
      go_ret
      exact GotRow.of rfl rfl hown hbel


set_option maxHeartbeats 400000 in
theorem encodeInts_impl {A : Option Addr} {n c : Nat} {xs : List Int} (w : World) (hx : Reads w w.heap.size 1 A n (xs.map (Value.int .i64))) (hn : n ≤ 134217728) :
    Calls Try.prog 23 #[.slice A n c] w (GotRow w 5 1 (encL xs).length ((encL xs).map (Value.int .u8))) := by
  have lx : Hid (xs.length = n) := by show xs.length = n; simpa using hx.1
  have hb0 : Below w.heap.size w (w.alloc (.cells #[] 5)) := (Below.refl _ w).alloc (Nat.le_refl _) _
  go_enter Try.func23, Try.ntmps23
  go_wp2
  go_loopw [3, 9] (fun v i wr => ∃ (k : Nat) (A' : Option Addr) (m c' : Nat), k ≤ n ∧ i = .int .i64 k ∧ v = .slice A' m c' ∧ Hid (m = (encL (xs.take k)).length) ∧ wr.ownsRow w.heap.size 5 1 (.slice A' m c') m ((encL (xs.take k)).map (Value.int .u8)) ∧ Below w.heap.size w wr)
    (fun _ i _ => n - (intOf i).toNat)
  case atStart => exact ⟨0, _, 0, 0, Nat.zero_le _, rfl, rfl, rfl, own_empty w 5 1, hb0⟩
  case round =>
    obtain ⟨k, A', m, c', hk, rfl, rfl, hm, hown, hbel⟩ := hrel
    have hz1 : w.heap.size ≤ wr.heap.size := hbel.size
    by_cases hlt : k < n
    · obtain ⟨b0, off0, rfl, hab, hcx⟩ := (hx.below hbel).num hlt
      have hl1 : k < xs.length := by rw [lx.out]; exact hlt
      replace hcx := hcx hl1
      have hs : Hid (appU (encL (xs.take k)) xs[k] = encL (xs.take (k + 1))) := (encL_take hl1).symm
      have hml : m ≤ 6 * k := by have := encL_len (xs.take k); have := hm.out; have h3 : (xs.take k).length ≤ k := List.length_take_le _ _; omega
      have hr := Reads.of_own hown
      clear hown hx
      go_wp2_with (go_at_call 27; refine (appendUvarint_impl _ hr (by omega)).mono ?_; rintro e w1 ⟨A1, c1, rfl, o1, b1⟩)
      go_roundw
      case rel => exact ⟨k + 1, A1, _, c1, by omega, by go_num, rfl, by show _ = _; rw [hs.out], by rw [← hs.out]; exact (o1.wide hz1 (Nat.le_refl _)).1, hbel.trans (b1.mono hz1)⟩
      case measure => simp [intOf]; omega
    · obtain rfl : k = n := by omega
      have he : Hid (xs.take k = xs) := by show _ = _; rw [List.take_of_length_le (by rw [lx.out]; exact Nat.le_refl _)]
      go_wp2
      go_ret
      exact GotRow.of (by rw [hm.out, he.out]) (by rw [he.out]) hown hbel


end Go.Proofs.Ytifghjkiodnehaa
