/-
  The walk of the generated law of the function EqualSheets. No condition.
-/
import Derived.Test.YtiifpdpejcbjnaaEs
import Derived.Test.YtiifpdpejcbjnaaLj
import Derived.Deep.RegionHeld3
import Derived.Laws.StructEq
import Derived.Deep.QuietTactic
import Derived.BigQuiet
namespace Go.Proofs.Ytiifpdpejcbjnaa
set_option linter.unusedVariables false
set_option linter.unusedSimpArgs false
set_option maxRecDepth 100000
open Go.ChangeShapes Go.WideShapes Go.ChangeAt Go.RowKit Go.Deep


set_option maxHeartbeats 2000000 in
theorem fnExactEqualSheets_walk (w : World) (a0 : Option Addr) (n0 c0 : Nat) (l0 : List (List Rul)) (g0 : ArgSh w a0 n0 l0) (a1 : Option Addr) (n1 c1 : Nat) (l1 : List (List Rul)) (g1 : ArgSh w a1 n1 l1) :
    Calls Try.prog 4 #[.slice a0 n0 c0, .slice a1 n1 c1] w fun e w' => e = .returned (.bool true) ∧ Below w.heap.size w w' := by
  obtain ⟨q01, hx0, q03⟩ := g0
  have nn0 := shsSz_nonneg l0
  obtain ⟨q11, hx1, q13⟩ := g1
  have nn1 := shsSz_nonneg l1
  have cb : Below w.heap.size w w := Below.refl _ _
  go_enter Try.func4, Try.ntmps4
  go_wp2_with fail
  refine (szSheetS_any _ hx0 q01 q03 _ (by omega) (by omega)).mono ?_
  rintro e v1 ⟨r1, rfl, h1a, h1b, h1c, bb⟩
  have zz := bb.size
  try simp only [World.size_drew, World.size_alloc] at zz
  replace hx0 := hx0.next bb
  replace hx1 := hx1.next bb
  replace cb : Below w.heap.size w v1 := by first | exact cb.trans (bb.mono cb.size) | exact cb.drew.trans (bb.mono cb.drew.size)
  clear bb
  rcases Int.lt_or_le r1 0 with hneg | hpos
  · go_wp2
    go_ret
    exact ⟨rfl, cb⟩
  · have h1d := h1c hpos
    clear h1c
    have y0 := sh_bounds (l := l0) (by omega)
    go_wp2_with fail
    refine (szSheetS_any _ hx1 q11 q13 _ (by omega) (by omega)).mono ?_
    rintro e v2 ⟨r2, rfl, h2a, h2b, h2c, bb⟩
    have zz := bb.size
    try simp only [World.size_drew, World.size_alloc] at zz
    replace hx0 := hx0.next bb
    replace hx1 := hx1.next bb
    replace cb : Below w.heap.size w v2 := by first | exact cb.trans (bb.mono cb.size) | exact cb.drew.trans (bb.mono cb.drew.size)
    clear bb
    rcases Int.lt_or_le r2 0 with hneg | hpos
    · go_wp2
      go_ret
      exact ⟨rfl, cb⟩
    · have h2d := h2c hpos
      clear h2c
      have y1 := sh_bounds (l := l1) (by omega)
      go_wp2_with fail
      refine (toSheetS_any _ hx0 (by omega) y0).mono ?_
      rintro e v3 ⟨Ao1, Co1, Lo1, rfl, ho1, o1, bb⟩
      have zz := bb.size
      try simp only [World.size_drew, World.size_alloc] at zz
      replace hx0 := hx0.next bb
      replace hx1 := hx1.next bb
      replace cb : Below w.heap.size w v3 := by first | exact cb.trans (bb.mono cb.size) | exact cb.drew.trans (bb.mono cb.drew.size)
      clear bb
      go_wp2_with fail
      refine (toSheetS_any _ hx1 (by omega) y1).mono ?_
      rintro e v4 ⟨Ao2, Co2, Lo2, rfl, ho2, o2, bb⟩
      have zz := bb.size
      try simp only [World.size_drew, World.size_alloc] at zz
      replace o1 := o1.below bb
      replace hx0 := hx0.next bb
      replace hx1 := hx1.next bb
      replace cb : Below w.heap.size w v4 := by first | exact cb.trans (bb.mono cb.size) | exact cb.drew.trans (bb.mono cb.drew.size)
      clear bb
      go_wp2_with fail
      refine (equalSheets_spec _ (OwnN.rdS o1 ho1 (by omega)) (OwnN.rdS o2 ho2 (by omega)) (by omega) y0).mono ?_
      rintro e v5 ⟨rfl, bb⟩
      have zz := bb.size
      try simp only [World.size_drew, World.size_alloc] at zz
      replace o1 := o1.below bb
      replace o2 := o2.below bb
      replace hx0 := hx0.next bb
      replace hx1 := hx1.next bb
      replace cb : Below w.heap.size w v5 := by first | exact cb.trans (bb.mono cb.size) | exact cb.drew.trans (bb.mono cb.drew.size)
      clear bb
      clear o1
      clear o2
      go_wp2_with fail
      refine (toSheetS_any _ hx0 (by omega) y0).mono ?_
      rintro e v6 ⟨Ap1, Cp1, Lp1, rfl, hp1, p1, bb⟩
      have zz := bb.size
      try simp only [World.size_drew, World.size_alloc] at zz
      replace hx0 := hx0.next bb
      replace hx1 := hx1.next bb
      replace cb : Below w.heap.size w v6 := by first | exact cb.trans (bb.mono cb.size) | exact cb.drew.trans (bb.mono cb.drew.size)
      clear bb
      go_wp2_with fail
      refine (toSheetS_any _ hx1 (by omega) y1).mono ?_
      rintro e v7 ⟨Ap2, Cp2, Lp2, rfl, hp2, p2, bb⟩
      have zz := bb.size
      try simp only [World.size_drew, World.size_alloc] at zz
      replace p1 := p1.below bb
      replace hx0 := hx0.next bb
      replace hx1 := hx1.next bb
      replace cb : Below w.heap.size w v7 := by first | exact cb.trans (bb.mono cb.size) | exact cb.drew.trans (bb.mono cb.drew.size)
      clear bb
      go_wp2_with fail
      refine (equalSheets_impl _ (OwnN.rdS p1 hp1 (by omega)) (OwnN.rdS p2 hp2 (by omega)) (by omega) y0).mono ?_
      rintro e v8 ⟨rfl, bb⟩
      have zz := bb.size
      try simp only [World.size_drew, World.size_alloc] at zz
      replace p1 := p1.below bb
      replace p2 := p2.below bb
      replace hx0 := hx0.next bb
      replace hx1 := hx1.next bb
      replace cb : Below w.heap.size w v8 := by first | exact cb.trans (bb.mono cb.size) | exact cb.drew.trans (bb.mono cb.drew.size)
      clear bb
      generalize decide (l0 = l1) = ES
      go_wp2_with fail
      refine (toSheetS_any _ hx0 (by omega) y0).mono ?_
      rintro e v9 ⟨Ap3, Cp3, Lp3, rfl, hp3, p3, bb⟩
      have zz := bb.size
      try simp only [World.size_drew, World.size_alloc] at zz
      replace p1 := p1.below bb
      replace p2 := p2.below bb
      replace hx0 := hx0.next bb
      replace hx1 := hx1.next bb
      replace cb : Below w.heap.size w v9 := by first | exact cb.trans (bb.mono cb.size) | exact cb.drew.trans (bb.mono cb.drew.size)
      clear bb
      go_wp2_with fail
      refine (eqSheetS_yes _ (OwnN.rdS p1 hp1 (by omega)) (OwnN.rdS p3 hp3 (by omega)) (by omega) y0).mono ?_
      rintro e v10 ⟨rfl, bb⟩
      have zz := bb.size
      try simp only [World.size_drew, World.size_alloc] at zz
      replace p1 := p1.below bb
      replace p2 := p2.below bb
      replace p3 := p3.below bb
      replace hx0 := hx0.next bb
      replace hx1 := hx1.next bb
      replace cb : Below w.heap.size w v10 := by first | exact cb.trans (bb.mono cb.size) | exact cb.drew.trans (bb.mono cb.drew.size)
      clear bb
      clear p3
      go_wp2_with fail
      refine (toSheetS_any _ hx1 (by omega) y1).mono ?_
      rintro e v11 ⟨Ap4, Cp4, Lp4, rfl, hp4, p4, bb⟩
      have zz := bb.size
      try simp only [World.size_drew, World.size_alloc] at zz
      replace p1 := p1.below bb
      replace p2 := p2.below bb
      replace hx0 := hx0.next bb
      replace hx1 := hx1.next bb
      replace cb : Below w.heap.size w v11 := by first | exact cb.trans (bb.mono cb.size) | exact cb.drew.trans (bb.mono cb.drew.size)
      clear bb
      go_wp2_with fail
      refine (eqSheetS_yes _ (OwnN.rdS p2 hp2 (by omega)) (OwnN.rdS p4 hp4 (by omega)) (by omega) y1).mono ?_
      rintro e v12 ⟨rfl, bb⟩
      have zz := bb.size
      try simp only [World.size_drew, World.size_alloc] at zz
      replace p1 := p1.below bb
      replace p2 := p2.below bb
      replace p4 := p4.below bb
      replace hx0 := hx0.next bb
      replace hx1 := hx1.next bb
      replace cb : Below w.heap.size w v12 := by first | exact cb.trans (bb.mono cb.size) | exact cb.drew.trans (bb.mono cb.drew.size)
      clear bb
      go_wp2
      go_ret
      exact ⟨rfl, cb⟩

end Go.Proofs.Ytiifpdpejcbjnaa
