/-
  The walks of the generated laws of the ciphers, of derived keys and of the readers. No condition.
-/
import Derived.Test.YtannhkkafibamaaDer
namespace Go.Proofs.Ytannhkkafibamaa
set_option linter.unusedVariables false
set_option maxRecDepth 100000
open Go.ChangeShapes Go.WideShapes Go.ChangeAt Go.RowKit Go.Deep

set_option maxHeartbeats 1000000 in
theorem fnExactEncrypt_walk (w : World) (a0 : Int) (l0 : -9223372036854775808 ≤ a0) (u0 : a0 ≤ 9223372036854775807) (a1 : Option Addr) (n1 c1 : Nat) (z1 : List Int) (g1 : ArgInts .u8 w a1 n1 z1) :
    Calls Try.prog 14 #[.int .i64 a0, .slice a1 n1 c1] w fun e w' => e = .returned (.bool true) ∧ Below w.heap.size w w' := by
  obtain ⟨y1, m1, r1, v1⟩ := g1
  unfold maxLen at m1
  have z1' := u8_all v1
  clear v1
  have Y1 := Lib.hid y1
  clear y1
  by_cases x1 : 1048576 < n1
  · go_enter Try.func14, Try.ntmps14
    go_wp2
    go_ret
    exact ⟨rfl, Below.refl _ _⟩
  have X1 : n1 ≤ 1048576 := by omega
  clear x1
  have cb : Below w.heap.size w w := Below.refl _ _
  go_enter Try.func14, Try.ntmps14
  go_wp2_with fail
  refine (toByteS_any (n := n1) _ ((r1.below cb).more cb.size) (by omega)).mono ?_
  rintro e w1 ⟨Ap1, Cp1, rfl, p1, b1⟩
  have s1 := b1.size
  replace cb := cb.trans (b1.mono cb.size)
  go_wp2_with fail
  refine (encrypt_spec _ (Reads.of_own p1.1) (by omega) z1' (by omega) (by omega)).mono ?_
  rintro e w2 ⟨AW, CW, rfl, ow, b2⟩
  have s2 := b2.size
  replace p1 := p1.below b2
  replace cb := cb.trans (b2.mono cb.size)
  go_wp2_with fail
  refine (toByteS_any (n := n1) _ ((r1.below cb).more cb.size) (by omega)).mono ?_
  rintro e w3 ⟨Aq1, Cq1, rfl, q1, b3⟩
  have s3 := b3.size
  replace ow := ow.below b3
  replace cb := cb.trans (b3.mono cb.size)
  go_wp2_with fail
  refine (encrypt_impl _ (Reads.of_own q1.1) (by omega) z1' (by omega) (by omega)).mono ?_
  rintro e w4 ⟨AG, CG, rfl, og, b4⟩
  have s4 := b4.size
  replace ow := ow.below b4
  replace q1 := q1.below b4
  replace cb := cb.trans (b4.mono cb.size)
  go_wp2_with fail
  refine (eqByteS_yes _ (Reads.of_own og.1) (Reads.of_own ow.1) (by omega)).mono ?_
  rintro e w5 ⟨rfl, b5⟩
  have s5 := b5.size
  replace ow := ow.below b5
  replace q1 := q1.below b5
  replace og := og.below b5
  replace cb := cb.trans (b5.mono cb.size)
  go_wp2_with fail
  refine (toByteS_any (n := n1) _ ((r1.below cb).more cb.size) (by omega)).mono ?_
  rintro e w6 ⟨At, Ct, rfl, t, b6⟩
  have s6 := b6.size
  replace ow := ow.below b6
  replace q1 := q1.below b6
  replace og := og.below b6
  replace cb := cb.trans (b6.mono cb.size)
  go_wp2_with fail
  refine (eqByteS_yes _ (Reads.of_own q1.1) (Reads.of_own t.1) (by omega)).mono ?_
  rintro e w7 ⟨rfl, b7⟩
  have s7 := b7.size
  replace ow := ow.below b7
  replace q1 := q1.below b7
  replace og := og.below b7
  replace t := t.below b7
  replace cb := cb.trans (b7.mono cb.size)
  go_wp2_with fail
  refine (markByteS_any _ q1 (by omega) (by omega) (by omega) (by omega)).mono ?_
  rintro e w8 ⟨rfl, q1', b8⟩
  have s8 := b8.size
  replace cb := cb.trans (b8.below cb.size (fun k hk => by have := hk.1; omega))
  replace ow := ow.keep b8 (fun k hk => by have h1 := hk.1; have h2 := hk.2; omega)
  replace og := og.keep b8 (fun k hk => by have h1 := hk.1; have h2 := hk.2; omega)
  go_wp2_with fail
  refine (eqByteS_yes _ (Reads.of_own og.1) (Reads.of_own ow.1) (by omega)).mono ?_
  rintro e w9 ⟨rfl, b9⟩
  have s9 := b9.size
  replace ow := ow.below b9
  replace og := og.below b9
  replace cb := cb.trans (b9.mono cb.size)
  go_wp2_with fail
  refine (markByteS_any _ og (by omega) (by omega) (by omega) (by omega)).mono ?_
  rintro e w10 ⟨rfl, om, b10⟩
  have s10 := b10.size
  replace cb := cb.trans (b10.below cb.size (fun k hk => by have := hk.1; omega))
  replace ow := ow.keep b10 (fun k hk => by have h1 := hk.1; have h2 := hk.2; omega)
  go_wp2_with fail
  refine (heldByteS_any _ (Reads.of_own om.1) (by omega) (by omega) (by omega)).mono ?_
  rintro e w11 ⟨rfl, b11⟩
  have s11 := b11.size
  replace ow := ow.below b11
  replace om := om.below b11
  replace cb := cb.trans (b11.mono cb.size)
  go_wp2_with fail
  refine (toByteS_any (n := n1) _ ((r1.below cb).more cb.size) (by omega)).mono ?_
  rintro e w12 ⟨At1, Ct1, rfl, t1, b12⟩
  have s12 := b12.size
  replace ow := ow.below b12
  replace om := om.below b12
  replace cb := cb.trans (b12.mono cb.size)
  go_wp2_with fail
  refine (encrypt_impl _ (Reads.of_own t1.1) (by omega) z1' (by omega) (by omega)).mono ?_
  rintro e w13 ⟨AH, CH, rfl, oh, b13⟩
  have s13 := b13.size
  replace ow := ow.below b13
  replace om := om.below b13
  replace t1 := t1.below b13
  replace cb := cb.trans (b13.mono cb.size)
  go_wp2_with fail
  refine (eqByteS_yes _ (Reads.of_own oh.1) (Reads.of_own ow.1) (by omega)).mono ?_
  rintro e w14 ⟨rfl, b14⟩
  have s14 := b14.size
  replace ow := ow.below b14
  replace om := om.below b14
  replace oh := oh.below b14
  replace cb := cb.trans (b14.mono cb.size)
  go_wp2_with fail
  refine (heldByteS_any _ (Reads.of_own om.1) (by omega) (by omega) (by omega)).mono ?_
  rintro e w15 ⟨rfl, b15⟩
  have s15 := b15.size
  replace om := om.below b15
  replace cb := cb.trans (b15.mono cb.size)
  go_wp2
  go_ret
  exact ⟨rfl, cb⟩

set_option maxHeartbeats 1000000 in
theorem fnExactDecrypt_walk (w : World) (a0 : Int) (l0 : -9223372036854775808 ≤ a0) (u0 : a0 ≤ 9223372036854775807) (a1 : Option Addr) (n1 c1 : Nat) (z1 : List Int) (g1 : ArgInts .u8 w a1 n1 z1) :
    Calls Try.prog 13 #[.int .i64 a0, .slice a1 n1 c1] w fun e w' => e = .returned (.bool true) ∧ Below w.heap.size w w' := by
  obtain ⟨y1, m1, r1, v1⟩ := g1
  unfold maxLen at m1
  have z1' := u8_all v1
  clear v1
  have Y1 := Lib.hid y1
  clear y1
  by_cases x1 : 1048576 < n1
  · go_enter Try.func13, Try.ntmps13
    go_wp2
    go_ret
    exact ⟨rfl, Below.refl _ _⟩
  have X1 : n1 ≤ 1048576 := by omega
  clear x1
  have cb : Below w.heap.size w w := Below.refl _ _
  go_enter Try.func13, Try.ntmps13
  go_wp2_with fail
  refine (toByteS_any (n := n1) _ ((r1.below cb).more cb.size) (by omega)).mono ?_
  rintro e w1 ⟨Ap1, Cp1, rfl, p1, b1⟩
  have s1 := b1.size
  replace cb := cb.trans (b1.mono cb.size)
  go_wp2_with fail
  refine (decrypt_spec _ (Reads.of_own p1.1) (by omega) z1' (by omega) (by omega)).mono ?_
  rintro e w2 ⟨AW, CW, rfl, ow, b2⟩
  have s2 := b2.size
  replace p1 := p1.below b2
  replace cb := cb.trans (b2.mono cb.size)
  go_wp2_with fail
  refine (toByteS_any (n := n1) _ ((r1.below cb).more cb.size) (by omega)).mono ?_
  rintro e w3 ⟨Aq1, Cq1, rfl, q1, b3⟩
  have s3 := b3.size
  replace ow := ow.below b3
  replace cb := cb.trans (b3.mono cb.size)
  go_wp2_with fail
  refine (decrypt_impl _ (Reads.of_own q1.1) (by omega) z1' (by omega) (by omega)).mono ?_
  rintro e w4 ⟨AG, CG, rfl, og, b4⟩
  have s4 := b4.size
  replace ow := ow.below b4
  replace q1 := q1.below b4
  replace cb := cb.trans (b4.mono cb.size)
  go_wp2_with fail
  refine (eqByteS_yes _ (Reads.of_own og.1) (Reads.of_own ow.1) (by omega)).mono ?_
  rintro e w5 ⟨rfl, b5⟩
  have s5 := b5.size
  replace ow := ow.below b5
  replace q1 := q1.below b5
  replace og := og.below b5
  replace cb := cb.trans (b5.mono cb.size)
  go_wp2_with fail
  refine (toByteS_any (n := n1) _ ((r1.below cb).more cb.size) (by omega)).mono ?_
  rintro e w6 ⟨At, Ct, rfl, t, b6⟩
  have s6 := b6.size
  replace ow := ow.below b6
  replace q1 := q1.below b6
  replace og := og.below b6
  replace cb := cb.trans (b6.mono cb.size)
  go_wp2_with fail
  refine (eqByteS_yes _ (Reads.of_own q1.1) (Reads.of_own t.1) (by omega)).mono ?_
  rintro e w7 ⟨rfl, b7⟩
  have s7 := b7.size
  replace ow := ow.below b7
  replace q1 := q1.below b7
  replace og := og.below b7
  replace t := t.below b7
  replace cb := cb.trans (b7.mono cb.size)
  go_wp2_with fail
  refine (markByteS_any _ q1 (by omega) (by omega) (by omega) (by omega)).mono ?_
  rintro e w8 ⟨rfl, q1', b8⟩
  have s8 := b8.size
  replace cb := cb.trans (b8.below cb.size (fun k hk => by have := hk.1; omega))
  replace ow := ow.keep b8 (fun k hk => by have h1 := hk.1; have h2 := hk.2; omega)
  replace og := og.keep b8 (fun k hk => by have h1 := hk.1; have h2 := hk.2; omega)
  go_wp2_with fail
  refine (eqByteS_yes _ (Reads.of_own og.1) (Reads.of_own ow.1) (by omega)).mono ?_
  rintro e w9 ⟨rfl, b9⟩
  have s9 := b9.size
  replace ow := ow.below b9
  replace og := og.below b9
  replace cb := cb.trans (b9.mono cb.size)
  go_wp2_with fail
  refine (markByteS_any _ og (by omega) (by omega) (by omega) (by omega)).mono ?_
  rintro e w10 ⟨rfl, om, b10⟩
  have s10 := b10.size
  replace cb := cb.trans (b10.below cb.size (fun k hk => by have := hk.1; omega))
  replace ow := ow.keep b10 (fun k hk => by have h1 := hk.1; have h2 := hk.2; omega)
  go_wp2_with fail
  refine (heldByteS_any _ (Reads.of_own om.1) (by omega) (by omega) (by omega)).mono ?_
  rintro e w11 ⟨rfl, b11⟩
  have s11 := b11.size
  replace ow := ow.below b11
  replace om := om.below b11
  replace cb := cb.trans (b11.mono cb.size)
  go_wp2_with fail
  refine (toByteS_any (n := n1) _ ((r1.below cb).more cb.size) (by omega)).mono ?_
  rintro e w12 ⟨At1, Ct1, rfl, t1, b12⟩
  have s12 := b12.size
  replace ow := ow.below b12
  replace om := om.below b12
  replace cb := cb.trans (b12.mono cb.size)
  go_wp2_with fail
  refine (decrypt_impl _ (Reads.of_own t1.1) (by omega) z1' (by omega) (by omega)).mono ?_
  rintro e w13 ⟨AH, CH, rfl, oh, b13⟩
  have s13 := b13.size
  replace ow := ow.below b13
  replace om := om.below b13
  replace t1 := t1.below b13
  replace cb := cb.trans (b13.mono cb.size)
  go_wp2_with fail
  refine (eqByteS_yes _ (Reads.of_own oh.1) (Reads.of_own ow.1) (by omega)).mono ?_
  rintro e w14 ⟨rfl, b14⟩
  have s14 := b14.size
  replace ow := ow.below b14
  replace om := om.below b14
  replace oh := oh.below b14
  replace cb := cb.trans (b14.mono cb.size)
  go_wp2_with fail
  refine (heldByteS_any _ (Reads.of_own om.1) (by omega) (by omega) (by omega)).mono ?_
  rintro e w15 ⟨rfl, b15⟩
  have s15 := b15.size
  replace om := om.below b15
  replace cb := cb.trans (b15.mono cb.size)
  go_wp2
  go_ret
  exact ⟨rfl, cb⟩

set_option maxHeartbeats 1000000 in
theorem fnExactDeriveFromString_walk (w : World) (a0 : Int) (l0 : -9223372036854775808 ≤ a0) (u0 : a0 ≤ 9223372036854775807) (s1 : ByteArray) (g1 : s1.size ≤ maxLen) :
    Calls Try.prog 11 #[.int .i64 a0, .string s1] w fun e w' => e = .returned (.bool true) ∧ Below w.heap.size w w' := by
  unfold maxLen at g1
  by_cases x1 : 1048576 < s1.size
  · go_enter Try.func11, Try.ntmps11
    go_wp2
    go_ret
    exact ⟨rfl, Below.refl _ _⟩
  have X1 : s1.size ≤ 1048576 := by omega
  clear x1
  have cb : Below w.heap.size w w := Below.refl _ _
  go_enter Try.func11, Try.ntmps11
  go_wp2_with fail
  refine (derive_spec _ _ (by omega) (by omega) (by omega)).mono ?_
  rintro e w1 ⟨rfl, b1⟩
  have s1 := b1.size
  replace cb := cb.trans (b1.mono cb.size)
  go_wp2_with fail
  refine (derive_impl _ _ (by omega) (by omega) (by omega)).mono ?_
  rintro e w2 ⟨rfl, b2⟩
  have s2 := b2.size
  replace cb := cb.trans (b2.mono cb.size)
  go_wp2
  go_ret
  exact ⟨rfl, cb⟩

set_option maxHeartbeats 1000000 in
theorem fnExactReadBytes_walk (w : World) (a0 : Option Addr) (n0 c0 : Nat) (z0 : List Int) (g0 : ArgInts .u8 w a0 n0 z0) (a1 : Int) (l1 : -9223372036854775808 ≤ a1) (u1 : a1 ≤ 9223372036854775807) (a2 : Int) (l2 : -9223372036854775808 ≤ a2) (u2 : a2 ≤ 9223372036854775807) :
    Calls Try.prog 12 #[.slice a0 n0 c0, .int .i64 a1, .int .i64 a2] w fun e w' => e = .returned (.bool true) ∧ Below w.heap.size w w' := by
  obtain ⟨y0, m0, r0, v0⟩ := g0
  unfold maxLen at m0
  have z0' := u8_all v0
  clear v0
  have Y0 := Lib.hid y0
  clear y0
  by_cases x0 : 1048576 < n0
  · go_enter Try.func12, Try.ntmps12
    go_wp2
    go_ret
    exact ⟨rfl, Below.refl _ _⟩
  have X0 : n0 ≤ 1048576 := by omega
  clear x0
  have cb : Below w.heap.size w w := Below.refl _ _
  go_enter Try.func12, Try.ntmps12
  have hbd : (rL (rbR z0 a1 a2)).length ≤ 1048576 := by have := rbR_len z0 a1 a2; have := Y0.out; omega
  go_wp2_with fail
  refine (toByteS_any (n := n0) _ ((r0.below cb).more cb.size) (by omega)).mono ?_
  rintro e w1 ⟨Ap0, Cp0, rfl, p0, b1⟩
  have s1 := b1.size
  replace cb := cb.trans (b1.mono cb.size)
  go_wp2_with fail
  refine (readBytes_spec _ (Reads.of_own p0.1) (by omega) (own_cap p0.1) z0' (by omega) (by omega)).mono ?_
  rintro e w2 ⟨AW, CW, rfl, ow, b2⟩
  have s2 := b2.size
  replace p0 := p0.below b2
  replace cb := cb.trans (b2.mono cb.size)
  go_wp2_with fail
  refine (toByteS_any (n := n0) _ ((r0.below cb).more cb.size) (by omega)).mono ?_
  rintro e w3 ⟨Aq0, Cq0, rfl, q0, b3⟩
  have s3 := b3.size
  replace ow := ow.below b3
  replace cb := cb.trans (b3.mono cb.size)
  go_wp2_with fail
  refine (readBytes_impl _ (Reads.of_own q0.1) (by omega) (own_cap q0.1) z0' (by omega) (by omega)).mono ?_
  rintro e w4 ⟨AG, CG, rfl, og, b4⟩
  have s4 := b4.size
  replace ow := ow.below b4
  replace q0 := q0.below b4
  replace cb := cb.trans (b4.mono cb.size)
  go_wp2_with fail
  refine (eqByteS_yes _ (Reads.of_own og.1) (Reads.of_own ow.1) (by omega)).mono ?_
  rintro e w5 ⟨rfl, b5⟩
  have s5 := b5.size
  replace ow := ow.below b5
  replace q0 := q0.below b5
  replace og := og.below b5
  replace cb := cb.trans (b5.mono cb.size)
  go_wp2_with fail
  refine (toByteS_any (n := n0) _ ((r0.below cb).more cb.size) (by omega)).mono ?_
  rintro e w6 ⟨At, Ct, rfl, t, b6⟩
  have s6 := b6.size
  replace ow := ow.below b6
  replace q0 := q0.below b6
  replace og := og.below b6
  replace cb := cb.trans (b6.mono cb.size)
  go_wp2_with fail
  refine (eqByteS_yes _ (Reads.of_own q0.1) (Reads.of_own t.1) (by omega)).mono ?_
  rintro e w7 ⟨rfl, b7⟩
  have s7 := b7.size
  replace ow := ow.below b7
  replace q0 := q0.below b7
  replace og := og.below b7
  replace t := t.below b7
  replace cb := cb.trans (b7.mono cb.size)
  go_wp2_with fail
  refine (markByteS_any _ q0 (by omega) (by omega) (by omega) (by omega)).mono ?_
  rintro e w8 ⟨rfl, q0', b8⟩
  have s8 := b8.size
  replace cb := cb.trans (b8.below cb.size (fun k hk => by have := hk.1; omega))
  replace ow := ow.keep b8 (fun k hk => by have h1 := hk.1; have h2 := hk.2; omega)
  replace og := og.keep b8 (fun k hk => by have h1 := hk.1; have h2 := hk.2; omega)
  go_wp2_with fail
  refine (eqByteS_yes _ (Reads.of_own og.1) (Reads.of_own ow.1) (by omega)).mono ?_
  rintro e w9 ⟨rfl, b9⟩
  have s9 := b9.size
  replace ow := ow.below b9
  replace og := og.below b9
  replace cb := cb.trans (b9.mono cb.size)
  go_wp2_with fail
  refine (markByteS_any _ og (by omega) (by omega) (by omega) (by omega)).mono ?_
  rintro e w10 ⟨rfl, om, b10⟩
  have s10 := b10.size
  replace cb := cb.trans (b10.below cb.size (fun k hk => by have := hk.1; omega))
  replace ow := ow.keep b10 (fun k hk => by have h1 := hk.1; have h2 := hk.2; omega)
  go_wp2_with fail
  refine (heldByteS_any _ (Reads.of_own om.1) (by omega) (by omega) (by omega)).mono ?_
  rintro e w11 ⟨rfl, b11⟩
  have s11 := b11.size
  replace ow := ow.below b11
  replace om := om.below b11
  replace cb := cb.trans (b11.mono cb.size)
  go_wp2_with fail
  refine (toByteS_any (n := n0) _ ((r0.below cb).more cb.size) (by omega)).mono ?_
  rintro e w12 ⟨At0, Ct0, rfl, t0, b12⟩
  have s12 := b12.size
  replace ow := ow.below b12
  replace om := om.below b12
  replace cb := cb.trans (b12.mono cb.size)
  go_wp2_with fail
  refine (readBytes_impl _ (Reads.of_own t0.1) (by omega) (own_cap t0.1) z0' (by omega) (by omega)).mono ?_
  rintro e w13 ⟨AH, CH, rfl, oh, b13⟩
  have s13 := b13.size
  replace ow := ow.below b13
  replace om := om.below b13
  replace t0 := t0.below b13
  replace cb := cb.trans (b13.mono cb.size)
  go_wp2_with fail
  refine (eqByteS_yes _ (Reads.of_own oh.1) (Reads.of_own ow.1) (by omega)).mono ?_
  rintro e w14 ⟨rfl, b14⟩
  have s14 := b14.size
  replace ow := ow.below b14
  replace om := om.below b14
  replace oh := oh.below b14
  replace cb := cb.trans (b14.mono cb.size)
  go_wp2_with fail
  refine (heldByteS_any _ (Reads.of_own om.1) (by omega) (by omega) (by omega)).mono ?_
  rintro e w15 ⟨rfl, b15⟩
  have s15 := b15.size
  replace om := om.below b15
  replace cb := cb.trans (b15.mono cb.size)
  go_wp2
  go_ret
  exact ⟨rfl, cb⟩

set_option maxHeartbeats 1000000 in
theorem fnExactDecodeInts_walk (w : World) (a0 : Option Addr) (n0 c0 : Nat) (z0 : List Int) (g0 : ArgInts .u8 w a0 n0 z0) (a1 : Int) (l1 : -9223372036854775808 ≤ a1) (u1 : a1 ≤ 9223372036854775807) (a2 : Int) (l2 : -9223372036854775808 ≤ a2) (u2 : a2 ≤ 9223372036854775807) :
    Calls Try.prog 18 #[.slice a0 n0 c0, .int .i64 a1, .int .i64 a2] w fun e w' => e = .returned (.bool true) ∧ Below w.heap.size w w' := by
  obtain ⟨y0, m0, r0, v0⟩ := g0
  unfold maxLen at m0
  have z0' := u8_all v0
  clear v0
  have Y0 := Lib.hid y0
  clear y0
  by_cases x0 : 1048576 < n0
  · go_enter Try.func18, Try.ntmps18
    go_wp2
    go_ret
    exact ⟨rfl, Below.refl _ _⟩
  have X0 : n0 ≤ 1048576 := by omega
  clear x0
  have cb : Below w.heap.size w w := Below.refl _ _
  go_enter Try.func18, Try.ntmps18
  have hbd : (rL (decR z0 a1 a2)).length ≤ 100 := by exact decR_len z0 a1 a2
  go_wp2_with fail
  refine (toByteS_any (n := n0) _ ((r0.below cb).more cb.size) (by omega)).mono ?_
  rintro e w1 ⟨Ap0, Cp0, rfl, p0, b1⟩
  have s1 := b1.size
  replace cb := cb.trans (b1.mono cb.size)
  go_wp2_with fail
  refine (decodeInts_spec _ (Reads.of_own p0.1) (by omega) z0' (by omega) (by omega)).mono ?_
  rintro e w2 ⟨AW, CW, rfl, ow, b2⟩
  have s2 := b2.size
  replace p0 := p0.below b2
  replace cb := cb.trans (b2.mono cb.size)
  go_wp2_with fail
  refine (toByteS_any (n := n0) _ ((r0.below cb).more cb.size) (by omega)).mono ?_
  rintro e w3 ⟨Aq0, Cq0, rfl, q0, b3⟩
  have s3 := b3.size
  replace ow := ow.below b3
  replace cb := cb.trans (b3.mono cb.size)
  go_wp2_with fail
  refine (decodeInts_impl _ (Reads.of_own q0.1) (by omega) z0' (by omega) (by omega)).mono ?_
  rintro e w4 ⟨AG, CG, rfl, og, b4⟩
  have s4 := b4.size
  replace ow := ow.below b4
  replace q0 := q0.below b4
  replace cb := cb.trans (b4.mono cb.size)
  go_wp2_with fail
  refine (eqIntS_yes _ (Reads.of_own og.1) (Reads.of_own ow.1) (by omega)).mono ?_
  rintro e w5 ⟨rfl, b5⟩
  have s5 := b5.size
  replace ow := ow.below b5
  replace q0 := q0.below b5
  replace og := og.below b5
  replace cb := cb.trans (b5.mono cb.size)
  go_wp2_with fail
  refine (toByteS_any (n := n0) _ ((r0.below cb).more cb.size) (by omega)).mono ?_
  rintro e w6 ⟨At, Ct, rfl, t, b6⟩
  have s6 := b6.size
  replace ow := ow.below b6
  replace q0 := q0.below b6
  replace og := og.below b6
  replace cb := cb.trans (b6.mono cb.size)
  go_wp2_with fail
  refine (eqByteS_yes _ (Reads.of_own q0.1) (Reads.of_own t.1) (by omega)).mono ?_
  rintro e w7 ⟨rfl, b7⟩
  have s7 := b7.size
  replace ow := ow.below b7
  replace q0 := q0.below b7
  replace og := og.below b7
  replace t := t.below b7
  replace cb := cb.trans (b7.mono cb.size)
  go_wp2_with fail
  refine (markByteS_any _ q0 (by omega) (by omega) (by omega) (by omega)).mono ?_
  rintro e w8 ⟨rfl, q0', b8⟩
  have s8 := b8.size
  replace cb := cb.trans (b8.below cb.size (fun k hk => by have := hk.1; omega))
  replace ow := ow.keep b8 (fun k hk => by have h1 := hk.1; have h2 := hk.2; omega)
  replace og := og.keep b8 (fun k hk => by have h1 := hk.1; have h2 := hk.2; omega)
  go_wp2_with fail
  refine (eqIntS_yes _ (Reads.of_own og.1) (Reads.of_own ow.1) (by omega)).mono ?_
  rintro e w9 ⟨rfl, b9⟩
  have s9 := b9.size
  replace ow := ow.below b9
  replace og := og.below b9
  replace cb := cb.trans (b9.mono cb.size)
  go_wp2_with fail
  refine (markIntS_any _ og (by omega) (by omega) (by omega) (by omega)).mono ?_
  rintro e w10 ⟨rfl, om, b10⟩
  have s10 := b10.size
  replace cb := cb.trans (b10.below cb.size (fun k hk => by have := hk.1; omega))
  replace ow := ow.keep b10 (fun k hk => by have h1 := hk.1; have h2 := hk.2; omega)
  go_wp2_with fail
  refine (heldIntS_any _ (Reads.of_own om.1) (by omega) (by omega) (by omega)).mono ?_
  rintro e w11 ⟨rfl, b11⟩
  have s11 := b11.size
  replace ow := ow.below b11
  replace om := om.below b11
  replace cb := cb.trans (b11.mono cb.size)
  go_wp2_with fail
  refine (toByteS_any (n := n0) _ ((r0.below cb).more cb.size) (by omega)).mono ?_
  rintro e w12 ⟨At0, Ct0, rfl, t0, b12⟩
  have s12 := b12.size
  replace ow := ow.below b12
  replace om := om.below b12
  replace cb := cb.trans (b12.mono cb.size)
  go_wp2_with fail
  refine (decodeInts_impl _ (Reads.of_own t0.1) (by omega) z0' (by omega) (by omega)).mono ?_
  rintro e w13 ⟨AH, CH, rfl, oh, b13⟩
  have s13 := b13.size
  replace ow := ow.below b13
  replace om := om.below b13
  replace t0 := t0.below b13
  replace cb := cb.trans (b13.mono cb.size)
  go_wp2_with fail
  refine (eqIntS_yes _ (Reads.of_own oh.1) (Reads.of_own ow.1) (by omega)).mono ?_
  rintro e w14 ⟨rfl, b14⟩
  have s14 := b14.size
  replace ow := ow.below b14
  replace om := om.below b14
  replace oh := oh.below b14
  replace cb := cb.trans (b14.mono cb.size)
  go_wp2_with fail
  refine (heldIntS_any _ (Reads.of_own om.1) (by omega) (by omega) (by omega)).mono ?_
  rintro e w15 ⟨rfl, b15⟩
  have s15 := b15.size
  replace om := om.below b15
  replace cb := cb.trans (b15.mono cb.size)
  go_wp2
  go_ret
  exact ⟨rfl, cb⟩

end Go.Proofs.Ytannhkkafibamaa
