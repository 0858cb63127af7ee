/-
  The walks of the generated laws of the address functions (all but SortAddrs). No condition.
-/
import Derived.Test.YtnamebgfiibchaaPas
import Derived.Test.YtnamebgfiibchaaHas
namespace Go.Proofs.Ytnamebgfiibchaa
set_option linter.unusedVariables false
set_option linter.unusedSimpArgs false
set_option maxRecDepth 100000
open Go.ChangeShapes Go.WideShapes Go.ChangeAt Go.RowKit Go.Deep

theorem box_rd {W w1 : World} {B : Nat} (hb : Below B W w1) {b : Nat} (h : b < B) {u0 u1 : Value} (hc : W.cell? ⟨b, 0, none⟩ = some u0 ∧ W.cell? ⟨b, 1, none⟩ = some u1) :
    w1.cell? ⟨b, 0, none⟩ = some u0 ∧ w1.cell? ⟨b, 1, none⟩ = some u1 := by
  obtain ⟨h1, h2⟩ := bcell hb
  exact ⟨by rw [h1 _ _ h, hc.1], by rw [h1 _ _ h, hc.2]⟩

set_option maxHeartbeats 1000000 in
theorem fnExactIsAddr_walk (w : World) (s0 q0 : ByteArray) (l0 : s0.size ≤ 9223372036854775807) (m0 : q0.size ≤ 9223372036854775807) :
    Calls Try.prog 3 #[.agg #[.string s0, .string q0]] w fun e w' => e = .returned (.bool true) ∧ Below w.heap.size w w' := by
  have cb := (Below.refl w.heap.size w).alloc (Nat.le_refl _) (.cells #[.string s0, .string q0] 23)
  go_enter Try.func3, Try.ntmps3
  go_wp2_with fail
  refine (szAddr_s2 (s0, q0) l0 m0 _ (by omega) (by omega) _).mono ?_
  rintro e w1 ⟨r1, rfl, h1a, h1b, h1c, b1⟩
  have z1 := b1.size
  simp at z1
  have x := box_rd b1 (b := w.heap.size) (u0 := .string s0) (u1 := .string q0) (by first | (simp; done) | (simp; omega)) ⟨by simp [go_sem], by simp [go_sem]⟩
  obtain ⟨x0, x1⟩ := x
  replace cb := cb.trans (b1.mono cb.size)
  rcases Int.lt_or_le r1 0 with hneg | hpos
  · go_wp2
    go_ret
    exact ⟨rfl, cb⟩
  · have h1d := h1c hpos
    clear h1c
    go_wp2_with fail
    refine (toAddr_s2 (s0, q0) _).mono ?_
    rintro e w2 ⟨rfl, b2⟩
    have z2 := b2.size
    have x := box_rd b2 (b := w.heap.size) (u0 := .string s0) (u1 := .string q0) (by omega) ⟨x0, x1⟩
    obtain ⟨x0, x1⟩ := x
    replace cb := cb.trans (b2.mono cb.size)
    go_wp2_with fail
    refine (isAddr_spec s0 q0 (by omega) (by omega) _).mono ?_
    rintro e w3 ⟨rfl, b3⟩
    have z3 := b3.size
    have x := box_rd b3 (b := w.heap.size) (u0 := .string s0) (u1 := .string q0) (by omega) ⟨x0, x1⟩
    obtain ⟨x0, x1⟩ := x
    replace cb := cb.trans (b3.mono cb.size)
    go_wp2_with fail
    refine (toAddr_s2 (s0, q0) _).mono ?_
    rintro e w4 ⟨rfl, b4⟩
    have z4 := b4.size
    have x := box_rd b4 (b := w.heap.size) (u0 := .string s0) (u1 := .string q0) (by omega) ⟨x0, x1⟩
    obtain ⟨x0, x1⟩ := x
    replace cb := cb.trans (b4.mono cb.size)
    go_wp2_with fail
    refine (isAddr_impl s0 q0 (by omega) (by omega) _).mono ?_
    rintro e w5 ⟨rfl, b5⟩
    have z5 := b5.size
    have x := box_rd b5 (b := w.heap.size) (u0 := .string s0) (u1 := .string q0) (by omega) ⟨x0, x1⟩
    obtain ⟨x0, x1⟩ := x
    replace cb := cb.trans (b5.mono cb.size)
    go_wp2
    go_ret
    exact ⟨rfl, cb⟩

set_option maxHeartbeats 1000000 in
theorem fnExactFormatAddr_walk (w : World) (s0 q0 : ByteArray) (l0 : s0.size ≤ 9223372036854775807) (m0 : q0.size ≤ 9223372036854775807) :
    Calls Try.prog 6 #[.agg #[.string s0, .string q0]] w fun e w' => e = .returned (.bool true) ∧ Below w.heap.size w w' := by
  have cb := (Below.refl w.heap.size w).alloc (Nat.le_refl _) (.cells #[.string s0, .string q0] 23)
  go_enter Try.func6, Try.ntmps6
  go_wp2_with fail
  refine (szAddr_s2 (s0, q0) l0 m0 _ (by omega) (by omega) _).mono ?_
  rintro e w1 ⟨r1, rfl, h1a, h1b, h1c, b1⟩
  have z1 := b1.size
  simp at z1
  have x := box_rd b1 (b := w.heap.size) (u0 := .string s0) (u1 := .string q0) (by first | (simp; done) | (simp; omega)) ⟨by simp [go_sem], by simp [go_sem]⟩
  obtain ⟨x0, x1⟩ := x
  replace cb := cb.trans (b1.mono cb.size)
  rcases Int.lt_or_le r1 0 with hneg | hpos
  · go_wp2
    go_ret
    exact ⟨rfl, cb⟩
  · have h1d := h1c hpos
    clear h1c
    go_wp2_with fail
    refine (toAddr_s2 (s0, q0) _).mono ?_
    rintro e w2 ⟨rfl, b2⟩
    have z2 := b2.size
    have x := box_rd b2 (b := w.heap.size) (u0 := .string s0) (u1 := .string q0) (by omega) ⟨x0, x1⟩
    obtain ⟨x0, x1⟩ := x
    replace cb := cb.trans (b2.mono cb.size)
    go_wp2_with fail
    refine (formatAddr_spec (s0, q0) (by simp; omega) (by simp; omega) _).mono ?_
    rintro e w3 ⟨rfl, b3⟩
    have z3 := b3.size
    have x := box_rd b3 (b := w.heap.size) (u0 := .string s0) (u1 := .string q0) (by omega) ⟨x0, x1⟩
    obtain ⟨x0, x1⟩ := x
    replace cb := cb.trans (b3.mono cb.size)
    go_wp2_with fail
    refine (toAddr_s2 (s0, q0) _).mono ?_
    rintro e w4 ⟨rfl, b4⟩
    have z4 := b4.size
    have x := box_rd b4 (b := w.heap.size) (u0 := .string s0) (u1 := .string q0) (by omega) ⟨x0, x1⟩
    obtain ⟨x0, x1⟩ := x
    replace cb := cb.trans (b4.mono cb.size)
    go_wp2_with fail
    refine (formatAddr_impl (s0, q0) (by simp; omega) (by simp; omega) _).mono ?_
    rintro e w5 ⟨rfl, b5⟩
    have z5 := b5.size
    have x := box_rd b5 (b := w.heap.size) (u0 := .string s0) (u1 := .string q0) (by omega) ⟨x0, x1⟩
    obtain ⟨x0, x1⟩ := x
    replace cb := cb.trans (b5.mono cb.size)
    go_wp2
    go_ret
    exact ⟨rfl, cb⟩

end Go.Proofs.Ytnamebgfiibchaa
