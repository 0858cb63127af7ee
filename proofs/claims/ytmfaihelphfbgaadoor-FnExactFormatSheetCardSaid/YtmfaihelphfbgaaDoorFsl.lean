/-
  The walk of the generated law of the function FormatSheet. Condition: the table of powers of ten as the text lays it.
-/
import Derived.Test.YtmfaihelphfbgaaDoorFss
import Derived.Test.YtmfaihelphfbgaaDoorRu1
import Derived.Deep.RegionHeld3
namespace Go.Proofs.YtmfaihelphfbgaaDoor
set_option linter.unusedVariables false
set_option linter.unusedSimpArgs false
set_option maxRecDepth 100000
open Go.ChangeShapes Go.WideShapes Go.ChangeAt Go.RowKit Go.Deep

set_option maxHeartbeats 2000000 in
theorem fnExactFormatSheet_walk (w : World) (hld : LdF w) (l : List Rul) (a0 : Option Addr) (c0 : Nat) (hx : Reads w w.heap.size 2 a0 l.length (rulV l)) (ok : okSh l) :
    Calls Tryd.prog 6 #[.agg #[.slice a0 l.length c0]] w fun e w' => e = .returned (.bool true) ∧ Below w.heap.size w w' := by
  obtain ⟨k0', z1⟩ := ok
  unfold maxLen at k0'
  have nn := rulsz_nonneg l
  have cb : Below w.heap.size w w := Below.refl _ _
  have K0 : (w.alloc (.cells #[.slice a0 l.length c0] 42)).cell? ⟨w.heap.size, 0, none⟩ = some (.slice a0 l.length c0) := by simp [go_sem]
  replace hx := hx.next ((Below.refl _ _).alloc (Nat.le_refl _) (.cells #[.slice a0 l.length c0] 42))
  replace cb : Below w.heap.size w (w.alloc (.cells #[.slice a0 l.length c0] 42)) := cb.alloc cb.size (.cells #[.slice a0 l.length c0] 42)
  have zz : w.heap.size < (w.alloc (.cells #[.slice a0 l.length c0] 42)).heap.size := by simp
  go_enter Tryd.func6, Tryd.ntmps6
  go_wp2_with fail
  refine (szSheet_any l _ hx (by omega) z1 _ (by omega) (by omega)).mono ?_
  rintro e v1 ⟨r1, rfl, h1a, h1b, h1c, bb⟩
  have zz := bb.size
  try simp only [World.size_drew, World.size_alloc] at zz
  replace hx := hx.next bb
  replace K0 : v1.cell? ⟨w.heap.size, 0, none⟩ = some (.slice a0 l.length c0) := ((bcell bb).1 _ _ (by first | omega | (simp; done) | (simp; omega))).trans (by first | exact K0 | (simp only [World.cell?_drew]; exact K0) | (simp [go_sem]; done))
  replace cb : Below w.heap.size w v1 := by first | exact cb.trans (bb.mono cb.size) | exact cb.drew.trans (bb.mono cb.drew.size)
  clear bb
  rcases Int.lt_or_le r1 0 with hneg | hpos
  · go_wp2
    go_ret
    exact ⟨rfl, cb⟩
  · have h1d := h1c hpos
    clear h1c
    have hbd : shSz l ≤ 1048576 := by omega
    have hnn : l.length ≤ 1048576 := by unfold shSz at hbd; omega
    go_wp2_with fail
    refine (toSheet_any l _ hx (by omega)).mono ?_
    rintro e v2 ⟨A1, C1, rfl, o1, bb⟩
    have zz := bb.size
    try simp only [World.size_drew, World.size_alloc] at zz
    replace hx := hx.next bb
    replace K0 : v2.cell? ⟨w.heap.size, 0, none⟩ = some (.slice a0 l.length c0) := ((bcell bb).1 _ _ (by first | omega | (simp; done) | (simp; omega))).trans (by first | exact K0 | (simp only [World.cell?_drew]; exact K0) | (simp [go_sem]; done))
    replace cb : Below w.heap.size w v2 := by first | exact cb.trans (bb.mono cb.size) | exact cb.drew.trans (bb.mono cb.drew.size)
    clear bb
    go_wp2_with fail
    refine (formatSheet_spec l _ (Reads.of_own o1.1) z1 hbd).mono ?_
    rintro e v3 ⟨rfl, bb⟩
    have zz := bb.size
    try simp only [World.size_drew, World.size_alloc] at zz
    replace o1 := o1.below bb
    replace hx := hx.next bb
    replace K0 : v3.cell? ⟨w.heap.size, 0, none⟩ = some (.slice a0 l.length c0) := ((bcell bb).1 _ _ (by first | omega | (simp; done) | (simp; omega))).trans (by first | exact K0 | (simp only [World.cell?_drew]; exact K0) | (simp [go_sem]; done))
    replace cb : Below w.heap.size w v3 := by first | exact cb.trans (bb.mono cb.size) | exact cb.drew.trans (bb.mono cb.drew.size)
    clear bb
    clear o1
    go_wp2_with fail
    refine (toSheet_any l _ hx (by omega)).mono ?_
    rintro e v4 ⟨A2, C2, rfl, o2, bb⟩
    have zz := bb.size
    try simp only [World.size_drew, World.size_alloc] at zz
    replace hx := hx.next bb
    replace K0 : v4.cell? ⟨w.heap.size, 0, none⟩ = some (.slice a0 l.length c0) := ((bcell bb).1 _ _ (by first | omega | (simp; done) | (simp; omega))).trans (by first | exact K0 | (simp only [World.cell?_drew]; exact K0) | (simp [go_sem]; done))
    replace cb : Below w.heap.size w v4 := by first | exact cb.trans (bb.mono cb.size) | exact cb.drew.trans (bb.mono cb.drew.size)
    clear bb
    replace K0 : (v4.alloc (.cells #[.slice A2 l.length C2] 34)).cell? ⟨w.heap.size, 0, none⟩ = some (.slice a0 l.length c0) := (World.cell?_alloc_some _ _ _ (by rw [K0]; rfl)).trans K0
    have K1 : (v4.alloc (.cells #[.slice A2 l.length C2] 34)).cell? ⟨v4.heap.size, 0, none⟩ = some (.slice A2 l.length C2) := by simp [go_sem]
    replace o2 := o2.below ((Below.refl _ _).alloc (Nat.le_refl _) (.cells #[.slice A2 l.length C2] 34))
    replace hx := hx.next ((Below.refl _ _).alloc (Nat.le_refl _) (.cells #[.slice A2 l.length C2] 34))
    replace cb : Below w.heap.size w (v4.alloc (.cells #[.slice A2 l.length C2] 34)) := cb.alloc cb.size (.cells #[.slice A2 l.length C2] 34)
    have zz : v4.heap.size < (v4.alloc (.cells #[.slice A2 l.length C2] 34)).heap.size := by simp
    go_wp2_with fail
    refine (formatSheet_impl l _ (hld.below cb) (Reads.of_own o2.1) z1 hbd).mono ?_
    rintro e v5 ⟨rfl, bb⟩
    have zz := bb.size
    try simp only [World.size_drew, World.size_alloc] at zz
    replace o2 := o2.below bb
    replace hx := hx.next bb
    replace K0 : v5.cell? ⟨w.heap.size, 0, none⟩ = some (.slice a0 l.length c0) := ((bcell bb).1 _ _ (by first | omega | (simp; done) | (simp; omega))).trans (by first | exact K0 | (simp only [World.cell?_drew]; exact K0) | (simp [go_sem]; done))
    replace K1 : v5.cell? ⟨v4.heap.size, 0, none⟩ = some (.slice A2 l.length C2) := ((bcell bb).1 _ _ (by first | omega | (simp; done) | (simp; omega))).trans (by first | exact K1 | (simp only [World.cell?_drew]; exact K1) | (simp [go_sem]; done))
    replace cb : Below w.heap.size w v5 := by first | exact cb.trans (bb.mono cb.size) | exact cb.drew.trans (bb.mono cb.drew.size)
    clear bb
    generalize fmtK l l.length = FT
    go_wp2_with fail
    go_region_held3 (fun v : World => v.cell? ⟨w.heap.size, 0, none⟩ = some (.slice a0 l.length c0) ∧ v.cell? ⟨v4.heap.size, 0, none⟩ = some (.slice A2 l.length C2))
      (first
        | exact ⟨K0, K1⟩
        | (refine ⟨?_, ?_⟩ <;> simp only [World.cell?_drew] <;> assumption))
      (first
        | (go_at_call 24
           refine (toSheet_any l _ (by first | exact hx | exact hx.drew) (by omega)).mono ?_
           rintro e v6 ⟨A3, C3, rfl, o3, bb⟩
           have zz := bb.size
           try simp only [World.size_drew, World.size_alloc] at zz
           (first | replace o2 := o2.below bb | replace o2 := o2.drew.below bb)
           (first | replace hx := hx.next bb | replace hx := hx.drew.next bb)
           replace K0 : v6.cell? ⟨w.heap.size, 0, none⟩ = some (.slice a0 l.length c0) := ((bcell bb).1 _ _ (by first | omega | (simp; done) | (simp; omega))).trans (by first | exact K0 | (simp only [World.cell?_drew]; exact K0) | (simp [go_sem]; done))
           replace K1 : v6.cell? ⟨v4.heap.size, 0, none⟩ = some (.slice A2 l.length C2) := ((bcell bb).1 _ _ (by first | omega | (simp; done) | (simp; omega))).trans (by first | exact K1 | (simp only [World.cell?_drew]; exact K1) | (simp [go_sem]; done))
           replace cb : Below w.heap.size w v6 := by first | exact cb.trans (bb.mono cb.size) | exact cb.drew.trans (bb.mono cb.drew.size)
           clear bb)
        | (go_at_call 18
           refine (eqSheet_yes l _ (Reads.of_own o2.1) (Reads.of_own o3.1) (by omega)).mono ?_
           rintro e v7 ⟨rfl, bb⟩
           have zz := bb.size
           try simp only [World.size_drew, World.size_alloc] at zz
           (first | replace o2 := o2.below bb | replace o2 := o2.drew.below bb)
           (first | replace o3 := o3.below bb | replace o3 := o3.drew.below bb)
           (first | replace hx := hx.next bb | replace hx := hx.drew.next bb)
           replace K0 : v7.cell? ⟨w.heap.size, 0, none⟩ = some (.slice a0 l.length c0) := ((bcell bb).1 _ _ (by first | omega | (simp; done) | (simp; omega))).trans (by first | exact K0 | (simp only [World.cell?_drew]; exact K0) | (simp [go_sem]; done))
           replace K1 : v7.cell? ⟨v4.heap.size, 0, none⟩ = some (.slice A2 l.length C2) := ((bcell bb).1 _ _ (by first | omega | (simp; done) | (simp; omega))).trans (by first | exact K1 | (simp only [World.cell?_drew]; exact K1) | (simp [go_sem]; done))
           replace cb : Below w.heap.size w v7 := by first | exact cb.trans (bb.mono cb.size) | exact cb.drew.trans (bb.mono cb.drew.size)
           clear bb))
    go_wp2
    go_ret
    exact ⟨rfl, cb⟩

end Go.Proofs.YtmfaihelphfbgaaDoor
