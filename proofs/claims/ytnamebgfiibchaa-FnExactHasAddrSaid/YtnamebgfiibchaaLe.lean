/-
  The walks of the generated laws of the functions CompareAddrs and HasAddr. No condition.
-/
import Derived.Test.YtnamebgfiibchaaLc
import Derived.Test.YtnamebgfiibchaaHas
import Derived.Deep.RegionHeld3
namespace Go.Proofs.Ytnamebgfiibchaa
set_option linter.unusedVariables false
set_option linter.unusedSimpArgs false
set_option maxRecDepth 100000
open Go.ChangeShapes Go.WideShapes Go.ChangeAt Go.RowKit Go.Deep

set_option maxHeartbeats 1000000 in
theorem fnExactCompareAddrs_walk (w : World) (s0 q0 : ByteArray) (l0 : s0.size ≤ 9223372036854775807) (m0 : q0.size ≤ 9223372036854775807) (s1 q1 : ByteArray) (l1 : s1.size ≤ 9223372036854775807) (m1 : q1.size ≤ 9223372036854775807) :
    Calls Try.prog 4 #[.agg #[.string s0, .string q0], .agg #[.string s1, .string q1]] w fun e w' => e = .returned (.bool true) ∧ Below w.heap.size w w' := by
  have cb := ((Below.refl w.heap.size w).alloc (Nat.le_refl _) (.cells #[.string s0, .string q0] 23)).alloc (by simp) (.cells #[.string s1, .string q1] 23)
  have K0 : ((w.alloc (.cells #[.string s0, .string q0] 23)).alloc (.cells #[.string s1, .string q1] 23)).cell? ⟨w.heap.size, 0, none⟩ = some (.string s0) := by simp [go_sem]
  have K1 : ((w.alloc (.cells #[.string s0, .string q0] 23)).alloc (.cells #[.string s1, .string q1] 23)).cell? ⟨w.heap.size, 1, none⟩ = some (.string q0) := by simp [go_sem]
  have K2 : ((w.alloc (.cells #[.string s0, .string q0] 23)).alloc (.cells #[.string s1, .string q1] 23)).cell? ⟨w.heap.size + 1, 0, none⟩ = some (.string s1) := by simp [go_sem]
  have K3 : ((w.alloc (.cells #[.string s0, .string q0] 23)).alloc (.cells #[.string s1, .string q1] 23)).cell? ⟨w.heap.size + 1, 1, none⟩ = some (.string q1) := by simp [go_sem]
  go_enter Try.func4, Try.ntmps4
  go_wp2_with fail
  refine (szAddr_s2 (s0, q0) l0 m0 _ (by omega) (by omega) _).mono ?_
  rintro e u1 ⟨r1, rfl, h1a, h1b, h1c, bb⟩
  have zz := bb.size
  try simp only [World.size_drew, World.size_alloc] at zz
  replace K0 : u1.cell? ⟨w.heap.size, 0, none⟩ = some (.string s0) := ((bcell bb).1 _ _ (by first | omega | (simp; done) | (simp; omega))).trans (by first | exact K0 | (simp only [World.cell?_drew]; exact K0) | (simp [go_sem]; done))
  replace K1 : u1.cell? ⟨w.heap.size, 1, none⟩ = some (.string q0) := ((bcell bb).1 _ _ (by first | omega | (simp; done) | (simp; omega))).trans (by first | exact K1 | (simp only [World.cell?_drew]; exact K1) | (simp [go_sem]; done))
  replace K2 : u1.cell? ⟨w.heap.size + 1, 0, none⟩ = some (.string s1) := ((bcell bb).1 _ _ (by first | omega | (simp; done) | (simp; omega))).trans (by first | exact K2 | (simp only [World.cell?_drew]; exact K2) | (simp [go_sem]; done))
  replace K3 : u1.cell? ⟨w.heap.size + 1, 1, none⟩ = some (.string q1) := ((bcell bb).1 _ _ (by first | omega | (simp; done) | (simp; omega))).trans (by first | exact K3 | (simp only [World.cell?_drew]; exact K3) | (simp [go_sem]; done))
  replace cb : Below w.heap.size w u1 := by first | exact cb.trans (bb.mono cb.size) | exact cb.drew.trans (bb.mono cb.drew.size)
  clear bb
  rcases Int.lt_or_le r1 0 with hneg | hpos
  · go_wp2
    go_ret
    exact ⟨rfl, cb⟩
  · have h1d := h1c hpos
    clear h1c
    go_wp2_with fail
    refine (szAddr_s2 (s1, q1) l1 m1 _ (by omega) (by omega) _).mono ?_
    rintro e u2 ⟨r2, rfl, h2a, h2b, h2c, bb⟩
    have zz := bb.size
    try simp only [World.size_drew, World.size_alloc] at zz
    replace K0 : u2.cell? ⟨w.heap.size, 0, none⟩ = some (.string s0) := ((bcell bb).1 _ _ (by first | omega | (simp; done) | (simp; omega))).trans (by first | exact K0 | (simp only [World.cell?_drew]; exact K0) | (simp [go_sem]; done))
    replace K1 : u2.cell? ⟨w.heap.size, 1, none⟩ = some (.string q0) := ((bcell bb).1 _ _ (by first | omega | (simp; done) | (simp; omega))).trans (by first | exact K1 | (simp only [World.cell?_drew]; exact K1) | (simp [go_sem]; done))
    replace K2 : u2.cell? ⟨w.heap.size + 1, 0, none⟩ = some (.string s1) := ((bcell bb).1 _ _ (by first | omega | (simp; done) | (simp; omega))).trans (by first | exact K2 | (simp only [World.cell?_drew]; exact K2) | (simp [go_sem]; done))
    replace K3 : u2.cell? ⟨w.heap.size + 1, 1, none⟩ = some (.string q1) := ((bcell bb).1 _ _ (by first | omega | (simp; done) | (simp; omega))).trans (by first | exact K3 | (simp only [World.cell?_drew]; exact K3) | (simp [go_sem]; done))
    replace cb : Below w.heap.size w u2 := by first | exact cb.trans (bb.mono cb.size) | exact cb.drew.trans (bb.mono cb.drew.size)
    clear bb
    rcases Int.lt_or_le r2 0 with hneg | hpos
    · go_wp2
      go_ret
      exact ⟨rfl, cb⟩
    · have h2d := h2c hpos
      clear h2c
      go_wp2_with fail
      go_region_held3 (fun v : World => v.cell? ⟨w.heap.size, 0, none⟩ = some (.string s0) ∧ v.cell? ⟨w.heap.size, 1, none⟩ = some (.string q0) ∧ v.cell? ⟨w.heap.size + 1, 0, none⟩ = some (.string s1) ∧ v.cell? ⟨w.heap.size + 1, 1, none⟩ = some (.string q1))
        (first
          | exact ⟨K0, K1, K2, K3⟩
          | (refine ⟨?_, ?_, ?_, ?_⟩ <;> simp only [World.cell?_drew] <;> assumption))
        (first
          | (go_at_call 12
             refine (toAddr_any _ _ _).mono ?_
             rintro e a1 ⟨rfl, bb⟩
             have zz := bb.size
             try simp only [World.size_drew, World.size_alloc] at zz
             replace K0 : a1.cell? ⟨w.heap.size, 0, none⟩ = some (.string s0) := ((bcell bb).1 _ _ (by first | omega | (simp; done) | (simp; omega))).trans (by first | exact K0 | (simp only [World.cell?_drew]; exact K0) | (simp [go_sem]; done))
             replace K1 : a1.cell? ⟨w.heap.size, 1, none⟩ = some (.string q0) := ((bcell bb).1 _ _ (by first | omega | (simp; done) | (simp; omega))).trans (by first | exact K1 | (simp only [World.cell?_drew]; exact K1) | (simp [go_sem]; done))
             replace K2 : a1.cell? ⟨w.heap.size + 1, 0, none⟩ = some (.string s1) := ((bcell bb).1 _ _ (by first | omega | (simp; done) | (simp; omega))).trans (by first | exact K2 | (simp only [World.cell?_drew]; exact K2) | (simp [go_sem]; done))
             replace K3 : a1.cell? ⟨w.heap.size + 1, 1, none⟩ = some (.string q1) := ((bcell bb).1 _ _ (by first | omega | (simp; done) | (simp; omega))).trans (by first | exact K3 | (simp only [World.cell?_drew]; exact K3) | (simp [go_sem]; done))
             replace cb : Below w.heap.size w a1 := by first | exact cb.trans (bb.mono cb.size) | exact cb.drew.trans (bb.mono cb.drew.size)
             clear bb)
          | (go_at_call 12
             refine (toAddr_any _ _ _).mono ?_
             rintro e a2 ⟨rfl, bb⟩
             have zz := bb.size
             try simp only [World.size_drew, World.size_alloc] at zz
             replace K0 : a2.cell? ⟨w.heap.size, 0, none⟩ = some (.string s0) := ((bcell bb).1 _ _ (by first | omega | (simp; done) | (simp; omega))).trans (by first | exact K0 | (simp only [World.cell?_drew]; exact K0) | (simp [go_sem]; done))
             replace K1 : a2.cell? ⟨w.heap.size, 1, none⟩ = some (.string q0) := ((bcell bb).1 _ _ (by first | omega | (simp; done) | (simp; omega))).trans (by first | exact K1 | (simp only [World.cell?_drew]; exact K1) | (simp [go_sem]; done))
             replace K2 : a2.cell? ⟨w.heap.size + 1, 0, none⟩ = some (.string s1) := ((bcell bb).1 _ _ (by first | omega | (simp; done) | (simp; omega))).trans (by first | exact K2 | (simp only [World.cell?_drew]; exact K2) | (simp [go_sem]; done))
             replace K3 : a2.cell? ⟨w.heap.size + 1, 1, none⟩ = some (.string q1) := ((bcell bb).1 _ _ (by first | omega | (simp; done) | (simp; omega))).trans (by first | exact K3 | (simp only [World.cell?_drew]; exact K3) | (simp [go_sem]; done))
             replace cb : Below w.heap.size w a2 := by first | exact cb.trans (bb.mono cb.size) | exact cb.drew.trans (bb.mono cb.drew.size)
             clear bb)
          | (go_at_call 14
             refine (compareAddrs_spec (s0, q0) (s1, q1) _).mono ?_
             rintro e a3 ⟨rfl, bb⟩
             have zz := bb.size
             try simp only [World.size_drew, World.size_alloc] at zz
             replace K0 : a3.cell? ⟨w.heap.size, 0, none⟩ = some (.string s0) := ((bcell bb).1 _ _ (by first | omega | (simp; done) | (simp; omega))).trans (by first | exact K0 | (simp only [World.cell?_drew]; exact K0) | (simp [go_sem]; done))
             replace K1 : a3.cell? ⟨w.heap.size, 1, none⟩ = some (.string q0) := ((bcell bb).1 _ _ (by first | omega | (simp; done) | (simp; omega))).trans (by first | exact K1 | (simp only [World.cell?_drew]; exact K1) | (simp [go_sem]; done))
             replace K2 : a3.cell? ⟨w.heap.size + 1, 0, none⟩ = some (.string s1) := ((bcell bb).1 _ _ (by first | omega | (simp; done) | (simp; omega))).trans (by first | exact K2 | (simp only [World.cell?_drew]; exact K2) | (simp [go_sem]; done))
             replace K3 : a3.cell? ⟨w.heap.size + 1, 1, none⟩ = some (.string q1) := ((bcell bb).1 _ _ (by first | omega | (simp; done) | (simp; omega))).trans (by first | exact K3 | (simp only [World.cell?_drew]; exact K3) | (simp [go_sem]; done))
             replace cb : Below w.heap.size w a3 := by first | exact cb.trans (bb.mono cb.size) | exact cb.drew.trans (bb.mono cb.drew.size)
             clear bb))
      go_wp2_with fail
      go_region_held3 (fun v : World => v.cell? ⟨w.heap.size, 0, none⟩ = some (.string s0) ∧ v.cell? ⟨w.heap.size, 1, none⟩ = some (.string q0) ∧ v.cell? ⟨w.heap.size + 1, 0, none⟩ = some (.string s1) ∧ v.cell? ⟨w.heap.size + 1, 1, none⟩ = some (.string q1))
        (first
          | exact ⟨K0, K1, K2, K3⟩
          | (refine ⟨?_, ?_, ?_, ?_⟩ <;> simp only [World.cell?_drew] <;> assumption))
        (first
          | (go_at_call 12
             refine (toAddr_any _ _ _).mono ?_
             rintro e b1 ⟨rfl, bb⟩
             have zz := bb.size
             try simp only [World.size_drew, World.size_alloc] at zz
             replace K0 : b1.cell? ⟨w.heap.size, 0, none⟩ = some (.string s0) := ((bcell bb).1 _ _ (by first | omega | (simp; done) | (simp; omega))).trans (by first | exact K0 | (simp only [World.cell?_drew]; exact K0) | (simp [go_sem]; done))
             replace K1 : b1.cell? ⟨w.heap.size, 1, none⟩ = some (.string q0) := ((bcell bb).1 _ _ (by first | omega | (simp; done) | (simp; omega))).trans (by first | exact K1 | (simp only [World.cell?_drew]; exact K1) | (simp [go_sem]; done))
             replace K2 : b1.cell? ⟨w.heap.size + 1, 0, none⟩ = some (.string s1) := ((bcell bb).1 _ _ (by first | omega | (simp; done) | (simp; omega))).trans (by first | exact K2 | (simp only [World.cell?_drew]; exact K2) | (simp [go_sem]; done))
             replace K3 : b1.cell? ⟨w.heap.size + 1, 1, none⟩ = some (.string q1) := ((bcell bb).1 _ _ (by first | omega | (simp; done) | (simp; omega))).trans (by first | exact K3 | (simp only [World.cell?_drew]; exact K3) | (simp [go_sem]; done))
             replace cb : Below w.heap.size w b1 := by first | exact cb.trans (bb.mono cb.size) | exact cb.drew.trans (bb.mono cb.drew.size)
             clear bb)
          | (go_at_call 12
             refine (toAddr_any _ _ _).mono ?_
             rintro e b2 ⟨rfl, bb⟩
             have zz := bb.size
             try simp only [World.size_drew, World.size_alloc] at zz
             replace K0 : b2.cell? ⟨w.heap.size, 0, none⟩ = some (.string s0) := ((bcell bb).1 _ _ (by first | omega | (simp; done) | (simp; omega))).trans (by first | exact K0 | (simp only [World.cell?_drew]; exact K0) | (simp [go_sem]; done))
             replace K1 : b2.cell? ⟨w.heap.size, 1, none⟩ = some (.string q0) := ((bcell bb).1 _ _ (by first | omega | (simp; done) | (simp; omega))).trans (by first | exact K1 | (simp only [World.cell?_drew]; exact K1) | (simp [go_sem]; done))
             replace K2 : b2.cell? ⟨w.heap.size + 1, 0, none⟩ = some (.string s1) := ((bcell bb).1 _ _ (by first | omega | (simp; done) | (simp; omega))).trans (by first | exact K2 | (simp only [World.cell?_drew]; exact K2) | (simp [go_sem]; done))
             replace K3 : b2.cell? ⟨w.heap.size + 1, 1, none⟩ = some (.string q1) := ((bcell bb).1 _ _ (by first | omega | (simp; done) | (simp; omega))).trans (by first | exact K3 | (simp only [World.cell?_drew]; exact K3) | (simp [go_sem]; done))
             replace cb : Below w.heap.size w b2 := by first | exact cb.trans (bb.mono cb.size) | exact cb.drew.trans (bb.mono cb.drew.size)
             clear bb)
          | (go_at_call 15
             refine (compareAddrs_impl (s0, q0) (s1, q1) _).mono ?_
             rintro e b3 ⟨rfl, bb⟩
             have zz := bb.size
             try simp only [World.size_drew, World.size_alloc] at zz
             replace K0 : b3.cell? ⟨w.heap.size, 0, none⟩ = some (.string s0) := ((bcell bb).1 _ _ (by first | omega | (simp; done) | (simp; omega))).trans (by first | exact K0 | (simp only [World.cell?_drew]; exact K0) | (simp [go_sem]; done))
             replace K1 : b3.cell? ⟨w.heap.size, 1, none⟩ = some (.string q0) := ((bcell bb).1 _ _ (by first | omega | (simp; done) | (simp; omega))).trans (by first | exact K1 | (simp only [World.cell?_drew]; exact K1) | (simp [go_sem]; done))
             replace K2 : b3.cell? ⟨w.heap.size + 1, 0, none⟩ = some (.string s1) := ((bcell bb).1 _ _ (by first | omega | (simp; done) | (simp; omega))).trans (by first | exact K2 | (simp only [World.cell?_drew]; exact K2) | (simp [go_sem]; done))
             replace K3 : b3.cell? ⟨w.heap.size + 1, 1, none⟩ = some (.string q1) := ((bcell bb).1 _ _ (by first | omega | (simp; done) | (simp; omega))).trans (by first | exact K3 | (simp only [World.cell?_drew]; exact K3) | (simp [go_sem]; done))
             replace cb : Below w.heap.size w b3 := by first | exact cb.trans (bb.mono cb.size) | exact cb.drew.trans (bb.mono cb.drew.size)
             clear bb))
      go_wp2
      go_ret
      exact ⟨rfl, cb⟩

set_option maxHeartbeats 1000000 in
theorem fnExactHasAddr_walk (w : World) (a0 : Option Addr) (n0 c0 : Nat) (z0 : List S2) (g0 : ArgS2 w a0 n0 z0) (s1 q1 : ByteArray) (l1 : s1.size ≤ 9223372036854775807) (m1 : q1.size ≤ 9223372036854775807) :
    Calls Try.prog 7 #[.slice a0 n0 c0, .agg #[.string s1, .string q1]] w fun e w' => e = .returned (.bool true) ∧ Below w.heap.size w w' := by
  obtain ⟨y0, n0', hx, hz⟩ := g0
  unfold maxLen at n0'
  have cb := (Below.refl w.heap.size w).alloc (Nat.le_refl _) (.cells #[.string s1, .string q1] 23)
  have K0 : (w.alloc (.cells #[.string s1, .string q1] 23)).cell? ⟨w.heap.size, 0, none⟩ = some (.string s1) := by simp [go_sem]
  have K1 : (w.alloc (.cells #[.string s1, .string q1] 23)).cell? ⟨w.heap.size, 1, none⟩ = some (.string q1) := by simp [go_sem]
  have Y0 := Lib.hid y0
  clear y0
  go_enter Try.func7, Try.ntmps7
  go_wp2_with fail
  refine (szAddrS_s2 _ ((hx.below cb).more cb.size) (by omega) hz _ (by omega) (by omega)).mono ?_
  rintro e u1 ⟨r1, rfl, h1a, h1b, h1c, bb⟩
  have zz := bb.size
  try simp only [World.size_drew, World.size_alloc] at zz
  replace K0 : u1.cell? ⟨w.heap.size, 0, none⟩ = some (.string s1) := ((bcell bb).1 _ _ (by first | omega | (simp; done) | (simp; omega))).trans (by first | exact K0 | (simp only [World.cell?_drew]; exact K0) | (simp [go_sem]; done))
  replace K1 : u1.cell? ⟨w.heap.size, 1, none⟩ = some (.string q1) := ((bcell bb).1 _ _ (by first | omega | (simp; done) | (simp; omega))).trans (by first | exact K1 | (simp only [World.cell?_drew]; exact K1) | (simp [go_sem]; done))
  replace cb : Below w.heap.size w u1 := by first | exact cb.trans (bb.mono cb.size) | exact cb.drew.trans (bb.mono cb.drew.size)
  clear bb
  rcases Int.lt_or_le r1 0 with hneg | hpos
  · go_wp2
    go_ret
    exact ⟨rfl, cb⟩
  · have h1d := h1c hpos
    clear h1c
    have nn := s2sz_nonneg z0
    go_wp2_with fail
    refine (szAddr_s2 (s1, q1) l1 m1 _ (by omega) (by omega) _).mono ?_
    rintro e u2 ⟨r2, rfl, h2a, h2b, h2c, bb⟩
    have zz := bb.size
    try simp only [World.size_drew, World.size_alloc] at zz
    replace K0 : u2.cell? ⟨w.heap.size, 0, none⟩ = some (.string s1) := ((bcell bb).1 _ _ (by first | omega | (simp; done) | (simp; omega))).trans (by first | exact K0 | (simp only [World.cell?_drew]; exact K0) | (simp [go_sem]; done))
    replace K1 : u2.cell? ⟨w.heap.size, 1, none⟩ = some (.string q1) := ((bcell bb).1 _ _ (by first | omega | (simp; done) | (simp; omega))).trans (by first | exact K1 | (simp only [World.cell?_drew]; exact K1) | (simp [go_sem]; done))
    replace cb : Below w.heap.size w u2 := by first | exact cb.trans (bb.mono cb.size) | exact cb.drew.trans (bb.mono cb.drew.size)
    clear bb
    rcases Int.lt_or_le r2 0 with hneg | hpos
    · go_wp2
      go_ret
      exact ⟨rfl, cb⟩
    · have h2d := h2c hpos
      clear h2c
      go_wp2_with fail
      go_region_held3 (fun v : World => v.cell? ⟨w.heap.size, 0, none⟩ = some (.string s1) ∧ v.cell? ⟨w.heap.size, 1, none⟩ = some (.string q1))
        (first
          | exact ⟨K0, K1⟩
          | (refine ⟨?_, ?_⟩ <;> simp only [World.cell?_drew] <;> assumption))
        (first
          | (go_at_call 29
             refine (toAddrS_any (n := n0) _ ((hx.below (by first | exact cb | exact cb.drew)).more (by first | exact cb.size | exact cb.drew.size)) (by omega)).mono ?_
             rintro e a1 ⟨A1, C1, rfl, o1, bb⟩
             have zz := bb.size
             try simp only [World.size_drew, World.size_alloc] at zz
             replace K0 : a1.cell? ⟨w.heap.size, 0, none⟩ = some (.string s1) := ((bcell bb).1 _ _ (by first | omega | (simp; done) | (simp; omega))).trans (by first | exact K0 | (simp only [World.cell?_drew]; exact K0) | (simp [go_sem]; done))
             replace K1 : a1.cell? ⟨w.heap.size, 1, none⟩ = some (.string q1) := ((bcell bb).1 _ _ (by first | omega | (simp; done) | (simp; omega))).trans (by first | exact K1 | (simp only [World.cell?_drew]; exact K1) | (simp [go_sem]; done))
             replace cb : Below w.heap.size w a1 := by first | exact cb.trans (bb.mono cb.size) | exact cb.drew.trans (bb.mono cb.drew.size)
             clear bb)
          | (go_at_call 12
             refine (toAddr_any _ _ _).mono ?_
             rintro e a2 ⟨rfl, bb⟩
             have zz := bb.size
             try simp only [World.size_drew, World.size_alloc] at zz
             replace o1 := o1.below bb
             replace K0 : a2.cell? ⟨w.heap.size, 0, none⟩ = some (.string s1) := ((bcell bb).1 _ _ (by first | omega | (simp; done) | (simp; omega))).trans (by first | exact K0 | (simp only [World.cell?_drew]; exact K0) | (simp [go_sem]; done))
             replace K1 : a2.cell? ⟨w.heap.size, 1, none⟩ = some (.string q1) := ((bcell bb).1 _ _ (by first | omega | (simp; done) | (simp; omega))).trans (by first | exact K1 | (simp only [World.cell?_drew]; exact K1) | (simp [go_sem]; done))
             replace cb : Below w.heap.size w a2 := by first | exact cb.trans (bb.mono cb.size) | exact cb.drew.trans (bb.mono cb.drew.size)
             clear bb)
          | (go_at_call 28
             refine (hasAddr_spec (s1, q1) _ (Reads.of_own o1.1) (by omega)).mono ?_
             rintro e a3 ⟨rfl, bb⟩
             have zz := bb.size
             try simp only [World.size_drew, World.size_alloc] at zz
             replace o1 := o1.below bb
             replace K0 : a3.cell? ⟨w.heap.size, 0, none⟩ = some (.string s1) := ((bcell bb).1 _ _ (by first | omega | (simp; done) | (simp; omega))).trans (by first | exact K0 | (simp only [World.cell?_drew]; exact K0) | (simp [go_sem]; done))
             replace K1 : a3.cell? ⟨w.heap.size, 1, none⟩ = some (.string q1) := ((bcell bb).1 _ _ (by first | omega | (simp; done) | (simp; omega))).trans (by first | exact K1 | (simp only [World.cell?_drew]; exact K1) | (simp [go_sem]; done))
             replace cb : Below w.heap.size w a3 := by first | exact cb.trans (bb.mono cb.size) | exact cb.drew.trans (bb.mono cb.drew.size)
             clear bb))
      clear o1
      go_wp2_with fail
      refine (toAddrS_any (n := n0) _ ((hx.below cb).more cb.size) (by omega)).mono ?_
      rintro e b1 ⟨A2, C2, rfl, o2, bb⟩
      have zz := bb.size
      try simp only [World.size_drew, World.size_alloc] at zz
      replace K0 : b1.cell? ⟨w.heap.size, 0, none⟩ = some (.string s1) := ((bcell bb).1 _ _ (by first | omega | (simp; done) | (simp; omega))).trans (by first | exact K0 | (simp only [World.cell?_drew]; exact K0) | (simp [go_sem]; done))
      replace K1 : b1.cell? ⟨w.heap.size, 1, none⟩ = some (.string q1) := ((bcell bb).1 _ _ (by first | omega | (simp; done) | (simp; omega))).trans (by first | exact K1 | (simp only [World.cell?_drew]; exact K1) | (simp [go_sem]; done))
      replace cb : Below w.heap.size w b1 := by first | exact cb.trans (bb.mono cb.size) | exact cb.drew.trans (bb.mono cb.drew.size)
      clear bb
      go_wp2_with fail
      refine (toAddr_any _ _ _).mono ?_
      rintro e b2 ⟨rfl, bb⟩
      have zz := bb.size
      try simp only [World.size_drew, World.size_alloc] at zz
      replace o2 := o2.below bb
      replace K0 : b2.cell? ⟨w.heap.size, 0, none⟩ = some (.string s1) := ((bcell bb).1 _ _ (by first | omega | (simp; done) | (simp; omega))).trans (by first | exact K0 | (simp only [World.cell?_drew]; exact K0) | (simp [go_sem]; done))
      replace K1 : b2.cell? ⟨w.heap.size, 1, none⟩ = some (.string q1) := ((bcell bb).1 _ _ (by first | omega | (simp; done) | (simp; omega))).trans (by first | exact K1 | (simp only [World.cell?_drew]; exact K1) | (simp [go_sem]; done))
      replace cb : Below w.heap.size w b2 := by first | exact cb.trans (bb.mono cb.size) | exact cb.drew.trans (bb.mono cb.drew.size)
      clear bb
      go_wp2_with fail
      refine (hasAddr_impl (s1, q1) _ (Reads.of_own o2.1) (by omega)).mono ?_
      rintro e b3 ⟨rfl, bb⟩
      have zz := bb.size
      try simp only [World.size_drew, World.size_alloc] at zz
      replace o2 := o2.below bb
      replace K0 : b3.cell? ⟨w.heap.size, 0, none⟩ = some (.string s1) := ((bcell bb).1 _ _ (by first | omega | (simp; done) | (simp; omega))).trans (by first | exact K0 | (simp only [World.cell?_drew]; exact K0) | (simp [go_sem]; done))
      replace K1 : b3.cell? ⟨w.heap.size, 1, none⟩ = some (.string q1) := ((bcell bb).1 _ _ (by first | omega | (simp; done) | (simp; omega))).trans (by first | exact K1 | (simp only [World.cell?_drew]; exact K1) | (simp [go_sem]; done))
      replace cb : Below w.heap.size w b3 := by first | exact cb.trans (bb.mono cb.size) | exact cb.drew.trans (bb.mono cb.drew.size)
      clear bb
      go_wp2_with fail
      refine (toAddrS_any (n := n0) _ ((hx.below cb).more cb.size) (by omega)).mono ?_
      rintro e b4 ⟨A3, C3, rfl, o3, bb⟩
      have zz := bb.size
      try simp only [World.size_drew, World.size_alloc] at zz
      replace o2 := o2.below bb
      replace K0 : b4.cell? ⟨w.heap.size, 0, none⟩ = some (.string s1) := ((bcell bb).1 _ _ (by first | omega | (simp; done) | (simp; omega))).trans (by first | exact K0 | (simp only [World.cell?_drew]; exact K0) | (simp [go_sem]; done))
      replace K1 : b4.cell? ⟨w.heap.size, 1, none⟩ = some (.string q1) := ((bcell bb).1 _ _ (by first | omega | (simp; done) | (simp; omega))).trans (by first | exact K1 | (simp only [World.cell?_drew]; exact K1) | (simp [go_sem]; done))
      replace cb : Below w.heap.size w b4 := by first | exact cb.trans (bb.mono cb.size) | exact cb.drew.trans (bb.mono cb.drew.size)
      clear bb
      go_wp2_with fail
      refine (eqAddrS_yes _ (Reads.of_own o2.1) (Reads.of_own o3.1) (by omega)).mono ?_
      rintro e b5 ⟨rfl, bb⟩
      have zz := bb.size
      try simp only [World.size_drew, World.size_alloc] at zz
      replace o2 := o2.below bb
      replace o3 := o3.below bb
      replace K0 : b5.cell? ⟨w.heap.size, 0, none⟩ = some (.string s1) := ((bcell bb).1 _ _ (by first | omega | (simp; done) | (simp; omega))).trans (by first | exact K0 | (simp only [World.cell?_drew]; exact K0) | (simp [go_sem]; done))
      replace K1 : b5.cell? ⟨w.heap.size, 1, none⟩ = some (.string q1) := ((bcell bb).1 _ _ (by first | omega | (simp; done) | (simp; omega))).trans (by first | exact K1 | (simp only [World.cell?_drew]; exact K1) | (simp [go_sem]; done))
      replace cb : Below w.heap.size w b5 := by first | exact cb.trans (bb.mono cb.size) | exact cb.drew.trans (bb.mono cb.drew.size)
      clear bb
      go_wp2
      go_ret
      exact ⟨rfl, cb⟩

end Go.Proofs.Ytnamebgfiibchaa
