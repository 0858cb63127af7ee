/-
  The walk of the generated law of the function ColorAt. No condition.
-/
import Derived.Test.YtiifpdpejcbjnaaCa
import Derived.Test.YtiifpdpejcbjnaaLj
import Derived.Test.YtiifpdpejcbjnaaLb2
import Derived.Deep.RegionHeld3
namespace Go.Proofs.Ytiifpdpejcbjnaa
set_option linter.unusedVariables false
set_option linter.unusedSimpArgs false
set_option maxRecDepth 100000
open Go.ChangeShapes Go.WideShapes Go.ChangeAt Go.RowKit Go.Deep


set_option maxHeartbeats 2000000 in
theorem fnExactColorAt_walk (w : World) (a0 : Option Addr) (n0 c0 : Nat) (l0 : List (List Rul)) (g0 : ArgSh w a0 n0 l0) (a1 : Option Addr) (n1 c1 : Nat) (l1 : List Nod) (a1' : Option Addr) (n1' c1' : Nat) (z1 : List Int) (g1 : ArgB w a1 n1 l1 a1' n1' z1) (i2 : Int) (f1 : -9223372036854775808 ≤ i2) (f2 : i2 ≤ 9223372036854775807) :
    Calls Try.prog 5 #[.slice a0 n0 c0, .agg #[.slice a1 n1 c1, .slice a1' n1' c1'], .int .i64 i2] w fun e w' => e = .returned (.bool true) ∧ Below w.heap.size w w' := by
  obtain ⟨q01, hx0, q03⟩ := g0
  have nn0 := shsSz_nonneg l0
  obtain ⟨q11, q12, q13, q14, q15, q16, q17⟩ := g1
  have hx1 : ReadsB w w.heap.size a1 n1 a1' n1' ⟨l1, z1⟩ := ⟨q12, q16⟩
  clear q12 q16 q14
  have cb : Below w.heap.size w w := Below.refl _ _
  have K0 : (w.alloc (.cells #[.slice a1 n1 c1, .slice a1' n1' c1'] 33)).cell? ⟨w.heap.size, 0, none⟩ = some (.slice a1 n1 c1) := by simp [go_sem]
  have K1 : (w.alloc (.cells #[.slice a1 n1 c1, .slice a1' n1' c1'] 33)).cell? ⟨w.heap.size, 1, none⟩ = some (.slice a1' n1' c1') := by simp [go_sem]
  replace hx0 := hx0.next ((Below.refl _ _).alloc (Nat.le_refl _) (.cells #[.slice a1 n1 c1, .slice a1' n1' c1'] 33))
  replace hx1 := hx1.next ((Below.refl _ _).alloc (Nat.le_refl _) (.cells #[.slice a1 n1 c1, .slice a1' n1' c1'] 33))
  replace cb : Below w.heap.size w (w.alloc (.cells #[.slice a1 n1 c1, .slice a1' n1' c1'] 33)) := cb.alloc cb.size (.cells #[.slice a1 n1 c1, .slice a1' n1' c1'] 33)
  have zz : w.heap.size < (w.alloc (.cells #[.slice a1 n1 c1, .slice a1' n1' c1'] 33)).heap.size := by simp
  go_enter Try.func5, Try.ntmps5
  go_wp2_with fail
  refine (szSheetS_any _ hx0 q01 q03 _ (by omega) (by omega)).mono ?_
  rintro e v1 ⟨r1, rfl, h1a, h1b, h1c, bb⟩
  have zz := bb.size
  try simp only [World.size_drew, World.size_alloc] at zz
  replace hx0 := hx0.next bb
  replace hx1 := hx1.next bb
  replace K0 : v1.cell? ⟨w.heap.size, 0, none⟩ = some (.slice a1 n1 c1) := ((bcell bb).1 _ _ (by first | omega | (simp; done) | (simp; omega))).trans (by first | exact K0 | (simp only [World.cell?_drew]; exact K0) | (simp [go_sem]; done))
  replace K1 : v1.cell? ⟨w.heap.size, 1, none⟩ = some (.slice a1' n1' c1') := ((bcell bb).1 _ _ (by first | omega | (simp; done) | (simp; omega))).trans (by first | exact K1 | (simp only [World.cell?_drew]; exact K1) | (simp [go_sem]; done))
  replace cb : Below w.heap.size w v1 := by first | exact cb.trans (bb.mono cb.size) | exact cb.drew.trans (bb.mono cb.drew.size)
  clear bb
  rcases Int.lt_or_le r1 0 with hneg | hpos
  · go_wp2
    go_ret
    exact ⟨rfl, cb⟩
  · have h1d := h1c hpos
    clear h1c
    have y0 := sh_bounds (l := l0) (by omega)
    go_wp2_with fail
    refine (szBuilder_any ⟨l1, z1⟩ _ hx1 q11 q13 q15 _ (by omega) (by omega)).mono ?_
    rintro e v2 ⟨r2, rfl, h2a, h2b, h2c, bb⟩
    have zz := bb.size
    try simp only [World.size_drew, World.size_alloc] at zz
    replace hx0 := hx0.next bb
    replace hx1 := hx1.next bb
    replace K0 : v2.cell? ⟨w.heap.size, 0, none⟩ = some (.slice a1 n1 c1) := ((bcell bb).1 _ _ (by first | omega | (simp; done) | (simp; omega))).trans (by first | exact K0 | (simp only [World.cell?_drew]; exact K0) | (simp [go_sem]; done))
    replace K1 : v2.cell? ⟨w.heap.size, 1, none⟩ = some (.slice a1' n1' c1') := ((bcell bb).1 _ _ (by first | omega | (simp; done) | (simp; omega))).trans (by first | exact K1 | (simp only [World.cell?_drew]; exact K1) | (simp [go_sem]; done))
    replace cb : Below w.heap.size w v2 := by first | exact cb.trans (bb.mono cb.size) | exact cb.drew.trans (bb.mono cb.drew.size)
    clear bb
    rcases Int.lt_or_le r2 0 with hneg | hpos
    · go_wp2
      go_ret
      exact ⟨rfl, cb⟩
    · have h2d := h2c hpos
      clear h2c
      have nb1 : 0 ≤ bldSz ⟨l1, z1⟩ := by have := nodsSz_nonneg l1; unfold bldSz; simp only; omega
      obtain ⟨y11, y12, y13, y14⟩ := bld_bounds hx1 (by omega)
      go_wp2_with fail
      go_region_held3 (fun v : World => v.cell? ⟨w.heap.size, 0, none⟩ = some (.slice a1 n1 c1) ∧ v.cell? ⟨w.heap.size, 1, none⟩ = some (.slice a1' n1' c1'))
        (first
          | exact ⟨K0, K1⟩
          | (refine ⟨?_, ?_⟩ <;> simp only [World.cell?_drew] <;> assumption))
        (first
          | (go_at_call 9
             refine (toSheetS_any _ (by first | exact hx0 | exact hx0.drew) (by omega) y0).mono ?_
             rintro e v3 ⟨Ao1, Co1, Lo1, rfl, ho1, o1, bb⟩
             have zz := bb.size
             try simp only [World.size_drew, World.size_alloc] at zz
             (first | replace hx0 := hx0.next bb | replace hx0 := hx0.drew.next bb)
             (first | replace hx1 := hx1.next bb | replace hx1 := hx1.drew.next bb)
             replace K0 : v3.cell? ⟨w.heap.size, 0, none⟩ = some (.slice a1 n1 c1) := ((bcell bb).1 _ _ (by first | omega | (simp; done) | (simp; omega))).trans (by first | exact K0 | (simp only [World.cell?_drew]; exact K0) | (simp [go_sem]; done))
             replace K1 : v3.cell? ⟨w.heap.size, 1, none⟩ = some (.slice a1' n1' c1') := ((bcell bb).1 _ _ (by first | omega | (simp; done) | (simp; omega))).trans (by first | exact K1 | (simp only [World.cell?_drew]; exact K1) | (simp [go_sem]; done))
             replace cb : Below w.heap.size w v3 := by first | exact cb.trans (bb.mono cb.size) | exact cb.drew.trans (bb.mono cb.drew.size)
             clear bb)
          | (go_at_call 16
             refine (toBuilder_any ⟨l1, z1⟩ _ (by first | exact hx1 | exact hx1.drew) (by omega) y13 (by omega)).mono ?_
             rintro e v4 ⟨Ao2, Co2, Do2, Eo2, Lo2, rfl, o2, bb⟩
             have zz := bb.size
             try simp only [World.size_drew, World.size_alloc] at zz
             (first | replace o1 := o1.below bb | replace o1 := o1.drew.below bb)
             (first | replace hx0 := hx0.next bb | replace hx0 := hx0.drew.next bb)
             (first | replace hx1 := hx1.next bb | replace hx1 := hx1.drew.next bb)
             replace K0 : v4.cell? ⟨w.heap.size, 0, none⟩ = some (.slice a1 n1 c1) := ((bcell bb).1 _ _ (by first | omega | (simp; done) | (simp; omega))).trans (by first | exact K0 | (simp only [World.cell?_drew]; exact K0) | (simp [go_sem]; done))
             replace K1 : v4.cell? ⟨w.heap.size, 1, none⟩ = some (.slice a1' n1' c1') := ((bcell bb).1 _ _ (by first | omega | (simp; done) | (simp; omega))).trans (by first | exact K1 | (simp only [World.cell?_drew]; exact K1) | (simp [go_sem]; done))
             replace cb : Below w.heap.size w v4 := by first | exact cb.trans (bb.mono cb.size) | exact cb.drew.trans (bb.mono cb.drew.size)
             clear bb)
          | (go_at_call 15
             refine (colorAt_spec ⟨l1, z1⟩ i2 _ (OwnN.rdS o1 ho1 (by omega)) (OwnB.rd o2 (by omega)) (by omega) y0 (by omega)).mono ?_
             rintro e v5 ⟨rfl, bb⟩
             have zz := bb.size
             try simp only [World.size_drew, World.size_alloc] at zz
             (first | replace o1 := o1.below bb | replace o1 := o1.drew.below bb)
             (first | replace o2 := o2.below bb | replace o2 := o2.drew.below bb)
             (first | replace hx0 := hx0.next bb | replace hx0 := hx0.drew.next bb)
             (first | replace hx1 := hx1.next bb | replace hx1 := hx1.drew.next bb)
             replace K0 : v5.cell? ⟨w.heap.size, 0, none⟩ = some (.slice a1 n1 c1) := ((bcell bb).1 _ _ (by first | omega | (simp; done) | (simp; omega))).trans (by first | exact K0 | (simp only [World.cell?_drew]; exact K0) | (simp [go_sem]; done))
             replace K1 : v5.cell? ⟨w.heap.size, 1, none⟩ = some (.slice a1' n1' c1') := ((bcell bb).1 _ _ (by first | omega | (simp; done) | (simp; omega))).trans (by first | exact K1 | (simp only [World.cell?_drew]; exact K1) | (simp [go_sem]; done))
             replace cb : Below w.heap.size w v5 := by first | exact cb.trans (bb.mono cb.size) | exact cb.drew.trans (bb.mono cb.drew.size)
             clear bb))
      clear o1
      clear o2
      go_wp2_with fail
      refine (toSheetS_any _ hx0 (by omega) y0).mono ?_
      rintro e v6 ⟨Ap1, Cp1, Lp1, rfl, hp1, p1, bb⟩
      have zz := bb.size
      try simp only [World.size_drew, World.size_alloc] at zz
      replace hx0 := hx0.next bb
      replace hx1 := hx1.next bb
      replace K0 : v6.cell? ⟨w.heap.size, 0, none⟩ = some (.slice a1 n1 c1) := ((bcell bb).1 _ _ (by first | omega | (simp; done) | (simp; omega))).trans (by first | exact K0 | (simp only [World.cell?_drew]; exact K0) | (simp [go_sem]; done))
      replace K1 : v6.cell? ⟨w.heap.size, 1, none⟩ = some (.slice a1' n1' c1') := ((bcell bb).1 _ _ (by first | omega | (simp; done) | (simp; omega))).trans (by first | exact K1 | (simp only [World.cell?_drew]; exact K1) | (simp [go_sem]; done))
      replace cb : Below w.heap.size w v6 := by first | exact cb.trans (bb.mono cb.size) | exact cb.drew.trans (bb.mono cb.drew.size)
      clear bb
      go_wp2_with fail
      refine (toBuilder_any ⟨l1, z1⟩ _ hx1 (by omega) y13 (by omega)).mono ?_
      rintro e v7 ⟨Ap2, Cp2, Dp2, Ep2, Lp2, rfl, p2, bb⟩
      have zz := bb.size
      try simp only [World.size_drew, World.size_alloc] at zz
      replace p1 := p1.below bb
      replace hx0 := hx0.next bb
      replace hx1 := hx1.next bb
      replace K0 : v7.cell? ⟨w.heap.size, 0, none⟩ = some (.slice a1 n1 c1) := ((bcell bb).1 _ _ (by first | omega | (simp; done) | (simp; omega))).trans (by first | exact K0 | (simp only [World.cell?_drew]; exact K0) | (simp [go_sem]; done))
      replace K1 : v7.cell? ⟨w.heap.size, 1, none⟩ = some (.slice a1' n1' c1') := ((bcell bb).1 _ _ (by first | omega | (simp; done) | (simp; omega))).trans (by first | exact K1 | (simp only [World.cell?_drew]; exact K1) | (simp [go_sem]; done))
      replace cb : Below w.heap.size w v7 := by first | exact cb.trans (bb.mono cb.size) | exact cb.drew.trans (bb.mono cb.drew.size)
      clear bb
      replace K0 : (v7.alloc (.cells #[.slice Ap2 n1 Cp2, .slice Dp2 n1' Ep2] 38)).cell? ⟨w.heap.size, 0, none⟩ = some (.slice a1 n1 c1) := (World.cell?_alloc_some _ _ _ (by rw [K0]; rfl)).trans K0
      replace K1 : (v7.alloc (.cells #[.slice Ap2 n1 Cp2, .slice Dp2 n1' Ep2] 38)).cell? ⟨w.heap.size, 1, none⟩ = some (.slice a1' n1' c1') := (World.cell?_alloc_some _ _ _ (by rw [K1]; rfl)).trans K1
      have K2 : (v7.alloc (.cells #[.slice Ap2 n1 Cp2, .slice Dp2 n1' Ep2] 38)).cell? ⟨v7.heap.size, 0, none⟩ = some (.slice Ap2 n1 Cp2) := by simp [go_sem]
      have K3 : (v7.alloc (.cells #[.slice Ap2 n1 Cp2, .slice Dp2 n1' Ep2] 38)).cell? ⟨v7.heap.size, 1, none⟩ = some (.slice Dp2 n1' Ep2) := by simp [go_sem]
      replace p1 := p1.below ((Below.refl _ _).alloc (Nat.le_refl _) (.cells #[.slice Ap2 n1 Cp2, .slice Dp2 n1' Ep2] 38))
      replace p2 := p2.below ((Below.refl _ _).alloc (Nat.le_refl _) (.cells #[.slice Ap2 n1 Cp2, .slice Dp2 n1' Ep2] 38))
      replace hx0 := hx0.next ((Below.refl _ _).alloc (Nat.le_refl _) (.cells #[.slice Ap2 n1 Cp2, .slice Dp2 n1' Ep2] 38))
      replace hx1 := hx1.next ((Below.refl _ _).alloc (Nat.le_refl _) (.cells #[.slice Ap2 n1 Cp2, .slice Dp2 n1' Ep2] 38))
      replace cb : Below w.heap.size w (v7.alloc (.cells #[.slice Ap2 n1 Cp2, .slice Dp2 n1' Ep2] 38)) := cb.alloc cb.size (.cells #[.slice Ap2 n1 Cp2, .slice Dp2 n1' Ep2] 38)
      have zz : v7.heap.size < (v7.alloc (.cells #[.slice Ap2 n1 Cp2, .slice Dp2 n1' Ep2] 38)).heap.size := by simp
      go_wp2_with fail
      refine (colorAt_impl ⟨l1, z1⟩ i2 _ (OwnN.rdS p1 hp1 (by omega)) (OwnB.rd p2 (by omega)) (by omega) y0 (by omega)).mono ?_
      rintro e v8 ⟨rfl, bb⟩
      have zz := bb.size
      try simp only [World.size_drew, World.size_alloc] at zz
      replace p1 := p1.below bb
      replace p2 := p2.below bb
      replace hx0 := hx0.next bb
      replace hx1 := hx1.next bb
      replace K0 : v8.cell? ⟨w.heap.size, 0, none⟩ = some (.slice a1 n1 c1) := ((bcell bb).1 _ _ (by first | omega | (simp; done) | (simp; omega))).trans (by first | exact K0 | (simp only [World.cell?_drew]; exact K0) | (simp [go_sem]; done))
      replace K1 : v8.cell? ⟨w.heap.size, 1, none⟩ = some (.slice a1' n1' c1') := ((bcell bb).1 _ _ (by first | omega | (simp; done) | (simp; omega))).trans (by first | exact K1 | (simp only [World.cell?_drew]; exact K1) | (simp [go_sem]; done))
      replace K2 : v8.cell? ⟨v7.heap.size, 0, none⟩ = some (.slice Ap2 n1 Cp2) := ((bcell bb).1 _ _ (by first | omega | (simp; done) | (simp; omega))).trans (by first | exact K2 | (simp only [World.cell?_drew]; exact K2) | (simp [go_sem]; done))
      replace K3 : v8.cell? ⟨v7.heap.size, 1, none⟩ = some (.slice Dp2 n1' Ep2) := ((bcell bb).1 _ _ (by first | omega | (simp; done) | (simp; omega))).trans (by first | exact K3 | (simp only [World.cell?_drew]; exact K3) | (simp [go_sem]; done))
      replace cb : Below w.heap.size w v8 := by first | exact cb.trans (bb.mono cb.size) | exact cb.drew.trans (bb.mono cb.drew.size)
      clear bb
      generalize colAt l0 l1 40 i2 = CA
      go_wp2_with fail
      refine (toSheetS_any _ hx0 (by omega) y0).mono ?_
      rintro e v9 ⟨Ap3, Cp3, Lp3, rfl, hp3, p3, bb⟩
      have zz := bb.size
      try simp only [World.size_drew, World.size_alloc] at zz
      replace p1 := p1.below bb
      replace p2 := p2.below bb
      replace hx0 := hx0.next bb
      replace hx1 := hx1.next bb
      replace K0 : v9.cell? ⟨w.heap.size, 0, none⟩ = some (.slice a1 n1 c1) := ((bcell bb).1 _ _ (by first | omega | (simp; done) | (simp; omega))).trans (by first | exact K0 | (simp only [World.cell?_drew]; exact K0) | (simp [go_sem]; done))
      replace K1 : v9.cell? ⟨w.heap.size, 1, none⟩ = some (.slice a1' n1' c1') := ((bcell bb).1 _ _ (by first | omega | (simp; done) | (simp; omega))).trans (by first | exact K1 | (simp only [World.cell?_drew]; exact K1) | (simp [go_sem]; done))
      replace K2 : v9.cell? ⟨v7.heap.size, 0, none⟩ = some (.slice Ap2 n1 Cp2) := ((bcell bb).1 _ _ (by first | omega | (simp; done) | (simp; omega))).trans (by first | exact K2 | (simp only [World.cell?_drew]; exact K2) | (simp [go_sem]; done))
      replace K3 : v9.cell? ⟨v7.heap.size, 1, none⟩ = some (.slice Dp2 n1' Ep2) := ((bcell bb).1 _ _ (by first | omega | (simp; done) | (simp; omega))).trans (by first | exact K3 | (simp only [World.cell?_drew]; exact K3) | (simp [go_sem]; done))
      replace cb : Below w.heap.size w v9 := by first | exact cb.trans (bb.mono cb.size) | exact cb.drew.trans (bb.mono cb.drew.size)
      clear bb
      go_wp2_with fail
      refine (eqSheetS_yes _ (OwnN.rdS p1 hp1 (by omega)) (OwnN.rdS p3 hp3 (by omega)) (by omega) y0).mono ?_
      rintro e v10 ⟨rfl, bb⟩
      have zz := bb.size
      try simp only [World.size_drew, World.size_alloc] at zz
      replace p1 := p1.below bb
      replace p2 := p2.below bb
      replace p3 := p3.below bb
      replace hx0 := hx0.next bb
      replace hx1 := hx1.next bb
      replace K0 : v10.cell? ⟨w.heap.size, 0, none⟩ = some (.slice a1 n1 c1) := ((bcell bb).1 _ _ (by first | omega | (simp; done) | (simp; omega))).trans (by first | exact K0 | (simp only [World.cell?_drew]; exact K0) | (simp [go_sem]; done))
      replace K1 : v10.cell? ⟨w.heap.size, 1, none⟩ = some (.slice a1' n1' c1') := ((bcell bb).1 _ _ (by first | omega | (simp; done) | (simp; omega))).trans (by first | exact K1 | (simp only [World.cell?_drew]; exact K1) | (simp [go_sem]; done))
      replace K2 : v10.cell? ⟨v7.heap.size, 0, none⟩ = some (.slice Ap2 n1 Cp2) := ((bcell bb).1 _ _ (by first | omega | (simp; done) | (simp; omega))).trans (by first | exact K2 | (simp only [World.cell?_drew]; exact K2) | (simp [go_sem]; done))
      replace K3 : v10.cell? ⟨v7.heap.size, 1, none⟩ = some (.slice Dp2 n1' Ep2) := ((bcell bb).1 _ _ (by first | omega | (simp; done) | (simp; omega))).trans (by first | exact K3 | (simp only [World.cell?_drew]; exact K3) | (simp [go_sem]; done))
      replace cb : Below w.heap.size w v10 := by first | exact cb.trans (bb.mono cb.size) | exact cb.drew.trans (bb.mono cb.drew.size)
      clear bb
      clear p3
      go_wp2_with fail
      go_region_held3 (fun v : World => v.cell? ⟨w.heap.size, 0, none⟩ = some (.slice a1 n1 c1) ∧ v.cell? ⟨w.heap.size, 1, none⟩ = some (.slice a1' n1' c1') ∧ v.cell? ⟨v7.heap.size, 0, none⟩ = some (.slice Ap2 n1 Cp2) ∧ v.cell? ⟨v7.heap.size, 1, none⟩ = some (.slice Dp2 n1' Ep2))
        (first
          | exact ⟨K0, K1, K2, K3⟩
          | (refine ⟨?_, ?_, ?_, ?_⟩ <;> simp only [World.cell?_drew] <;> assumption))
        (first
          | (go_at_call 16
             refine (toBuilder_any ⟨l1, z1⟩ _ (by first | exact hx1 | exact hx1.drew) (by omega) y13 (by omega)).mono ?_
             rintro e v11 ⟨Ap4, Cp4, Dp4, Ep4, Lp4, rfl, p4, bb⟩
             have zz := bb.size
             try simp only [World.size_drew, World.size_alloc] at zz
             (first | replace p1 := p1.below bb | replace p1 := p1.drew.below bb)
             (first | replace p2 := p2.below bb | replace p2 := p2.drew.below bb)
             (first | replace hx0 := hx0.next bb | replace hx0 := hx0.drew.next bb)
             (first | replace hx1 := hx1.next bb | replace hx1 := hx1.drew.next bb)
             replace K0 : v11.cell? ⟨w.heap.size, 0, none⟩ = some (.slice a1 n1 c1) := ((bcell bb).1 _ _ (by first | omega | (simp; done) | (simp; omega))).trans (by first | exact K0 | (simp only [World.cell?_drew]; exact K0) | (simp [go_sem]; done))
             replace K1 : v11.cell? ⟨w.heap.size, 1, none⟩ = some (.slice a1' n1' c1') := ((bcell bb).1 _ _ (by first | omega | (simp; done) | (simp; omega))).trans (by first | exact K1 | (simp only [World.cell?_drew]; exact K1) | (simp [go_sem]; done))
             replace K2 : v11.cell? ⟨v7.heap.size, 0, none⟩ = some (.slice Ap2 n1 Cp2) := ((bcell bb).1 _ _ (by first | omega | (simp; done) | (simp; omega))).trans (by first | exact K2 | (simp only [World.cell?_drew]; exact K2) | (simp [go_sem]; done))
             replace K3 : v11.cell? ⟨v7.heap.size, 1, none⟩ = some (.slice Dp2 n1' Ep2) := ((bcell bb).1 _ _ (by first | omega | (simp; done) | (simp; omega))).trans (by first | exact K3 | (simp only [World.cell?_drew]; exact K3) | (simp [go_sem]; done))
             replace cb : Below w.heap.size w v11 := by first | exact cb.trans (bb.mono cb.size) | exact cb.drew.trans (bb.mono cb.drew.size)
             clear bb)
          | (go_at_call 18
             refine (eqBuilder_yes ⟨l1, z1⟩ _ (OwnB.rd p2 (by omega)) (OwnB.rd p4 (by omega)) (by omega) y13 (by omega)).mono ?_
             rintro e v12 ⟨rfl, bb⟩
             have zz := bb.size
             try simp only [World.size_drew, World.size_alloc] at zz
             (first | replace p1 := p1.below bb | replace p1 := p1.drew.below bb)
             (first | replace p2 := p2.below bb | replace p2 := p2.drew.below bb)
             (first | replace p4 := p4.below bb | replace p4 := p4.drew.below bb)
             (first | replace hx0 := hx0.next bb | replace hx0 := hx0.drew.next bb)
             (first | replace hx1 := hx1.next bb | replace hx1 := hx1.drew.next bb)
             replace K0 : v12.cell? ⟨w.heap.size, 0, none⟩ = some (.slice a1 n1 c1) := ((bcell bb).1 _ _ (by first | omega | (simp; done) | (simp; omega))).trans (by first | exact K0 | (simp only [World.cell?_drew]; exact K0) | (simp [go_sem]; done))
             replace K1 : v12.cell? ⟨w.heap.size, 1, none⟩ = some (.slice a1' n1' c1') := ((bcell bb).1 _ _ (by first | omega | (simp; done) | (simp; omega))).trans (by first | exact K1 | (simp only [World.cell?_drew]; exact K1) | (simp [go_sem]; done))
             replace K2 : v12.cell? ⟨v7.heap.size, 0, none⟩ = some (.slice Ap2 n1 Cp2) := ((bcell bb).1 _ _ (by first | omega | (simp; done) | (simp; omega))).trans (by first | exact K2 | (simp only [World.cell?_drew]; exact K2) | (simp [go_sem]; done))
             replace K3 : v12.cell? ⟨v7.heap.size, 1, none⟩ = some (.slice Dp2 n1' Ep2) := ((bcell bb).1 _ _ (by first | omega | (simp; done) | (simp; omega))).trans (by first | exact K3 | (simp only [World.cell?_drew]; exact K3) | (simp [go_sem]; done))
             replace cb : Below w.heap.size w v12 := by first | exact cb.trans (bb.mono cb.size) | exact cb.drew.trans (bb.mono cb.drew.size)
             clear bb))
      go_wp2
      go_ret
      exact ⟨rfl, cb⟩

end Go.Proofs.Ytiifpdpejcbjnaa
