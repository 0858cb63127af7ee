/-
  The walk of the generated law of the function SortAddrs. No condition.
-/
import Derived.Test.YtipfhedbeeabdaaSu
import Derived.Deep.RegionHeld3
namespace Go.Proofs.Ytipfhedbeeabdaa
set_option linter.unusedVariables false
set_option linter.unusedSimpArgs false
set_option maxRecDepth 100000
open Go.ChangeShapes Go.WideShapes Go.ChangeAt Go.RowKit Go.Deep

set_option maxHeartbeats 2000000 in
theorem fnExactSortAddrs_walk (w : World) (a0 : Option Addr) (n0 c0 : Nat) (z0 : List S2) (g0 : ArgS2 w a0 n0 z0) :
    Calls Try.prog 4 #[.slice a0 n0 c0] w fun e w' => e = .returned (.bool true) ∧ Below w.heap.size w w' := by
  obtain ⟨y0, n0', hx, hz⟩ := g0
  unfold maxLen at n0'
  have Y0 := Lib.hid y0
  clear y0
  have nn := s2sz_nonneg z0
  have cb : Below w.heap.size w w := Below.refl _ _
  go_enter Try.func4, Try.ntmps4
  go_wp2_with fail
  refine (szAddrS_s2 _ ((hx.below cb).more cb.size) (by omega) hz _ (by omega) (by omega)).mono ?_
  rintro e v1 ⟨r1, rfl, h1a, h1b, h1c, bb⟩
  have zz := bb.size
  try simp only [World.size_drew, World.size_alloc] at zz
  replace cb : Below w.heap.size w v1 := by first | exact cb.trans (bb.mono cb.size) | exact cb.drew.trans (bb.mono cb.drew.size)
  clear bb
  rcases Int.lt_or_le r1 0 with hneg | hpos
  · go_wp2
    go_ret
    exact ⟨rfl, cb⟩
  · have h1d := h1c hpos
    clear h1c
    clear hz
    go_wp2_with fail
    refine (toAddrS_any (n := n0) _ ((hx.below cb).more cb.size) (by omega)).mono ?_
    rintro e v2 ⟨Ao1, Co1, rfl, o1, bb⟩
    have zz := bb.size
    try simp only [World.size_drew, World.size_alloc] at zz
    replace cb : Below w.heap.size w v2 := by first | exact cb.trans (bb.mono cb.size) | exact cb.drew.trans (bb.mono cb.drew.size)
    clear bb
    go_wp2_with fail
    refine (sortAddrs_spec _ (Reads.of_own o1.1) (by omega)).mono ?_
    rintro e v3 ⟨x1, A1, C1, s1, l1, rfl, g1, bb⟩
    have zz := bb.size
    try simp only [World.size_drew, World.size_alloc] at zz
    replace o1 := o1.below bb
    replace cb : Below w.heap.size w v3 := by first | exact cb.trans (bb.mono cb.size) | exact cb.drew.trans (bb.mono cb.drew.size)
    clear bb
    have ln : x1.length ≤ n0 := by rw [← Y0.out]; exact l1
    clear o1
    go_wp2_with fail
    refine (toAddrS_any (n := n0) _ ((hx.below cb).more cb.size) (by omega)).mono ?_
    rintro e v4 ⟨Ao2, Co2, rfl, o2, bb⟩
    have zz := bb.size
    try simp only [World.size_drew, World.size_alloc] at zz
    replace g1 := g1.below bb
    replace cb : Below w.heap.size w v4 := by first | exact cb.trans (bb.mono cb.size) | exact cb.drew.trans (bb.mono cb.drew.size)
    clear bb
    go_wp2_with fail
    refine (sortAddrs_impl _ (Reads.of_own o2.1) (by omega)).mono ?_
    rintro e v5 ⟨x2, A2, C2, s2, l2, rfl, g2, bb⟩
    have zz := bb.size
    try simp only [World.size_drew, World.size_alloc] at zz
    replace g1 := g1.below bb
    replace o2 := o2.below bb
    replace cb : Below w.heap.size w v5 := by first | exact cb.trans (bb.mono cb.size) | exact cb.drew.trans (bb.mono cb.drew.size)
    clear bb
    obtain rfl := s2.unique s1
    go_wp2_with fail
    refine (eqAddrS_yes _ (Reads.of_own g2.1) (Reads.of_own g1.1) (by omega)).mono ?_
    rintro e v6 ⟨rfl, bb⟩
    have zz := bb.size
    try simp only [World.size_drew, World.size_alloc] at zz
    replace g1 := g1.below bb
    replace o2 := o2.below bb
    replace g2 := g2.below bb
    replace cb : Below w.heap.size w v6 := by first | exact cb.trans (bb.mono cb.size) | exact cb.drew.trans (bb.mono cb.drew.size)
    clear bb
    go_wp2_with fail
    refine (toAddrS_any (n := n0) _ ((hx.below cb).more cb.size) (by omega)).mono ?_
    rintro e v7 ⟨Ao3, Co3, rfl, o3, bb⟩
    have zz := bb.size
    try simp only [World.size_drew, World.size_alloc] at zz
    replace g1 := g1.below bb
    replace o2 := o2.below bb
    replace g2 := g2.below bb
    replace cb : Below w.heap.size w v7 := by first | exact cb.trans (bb.mono cb.size) | exact cb.drew.trans (bb.mono cb.drew.size)
    clear bb
    go_wp2_with fail
    refine (eqAddrS_yes _ (Reads.of_own o2.1) (Reads.of_own o3.1) (by omega)).mono ?_
    rintro e v8 ⟨rfl, bb⟩
    have zz := bb.size
    try simp only [World.size_drew, World.size_alloc] at zz
    replace g1 := g1.below bb
    replace o2 := o2.below bb
    replace g2 := g2.below bb
    replace o3 := o3.below bb
    replace cb : Below w.heap.size w v8 := by first | exact cb.trans (bb.mono cb.size) | exact cb.drew.trans (bb.mono cb.drew.size)
    clear bb
    clear o3
    go_wp2_with fail
    refine (markAddrS_any _ o2 (by omega) (by omega) (by omega) (by omega) (by omega)).mono ?_
    rintro e v9 ⟨rfl, om, bb⟩
    have zz := bb.size
    try simp only [World.size_drew, World.size_alloc] at zz
    replace cb : Below w.heap.size w v9 := cb.trans (bb.below cb.size (fun k hk => by have := hk.1; omega))
    replace g1 := g1.keep bb (fun k hk => by have h1 := hk.1; have h2 := hk.2; omega)
    replace g2 := g2.keep bb (fun k hk => by have h1 := hk.1; have h2 := hk.2; omega)
    clear bb
    clear o2
    clear om
    go_wp2_with fail
    refine (eqAddrS_yes _ (Reads.of_own g2.1) (Reads.of_own g1.1) (by omega)).mono ?_
    rintro e v10 ⟨rfl, bb⟩
    have zz := bb.size
    try simp only [World.size_drew, World.size_alloc] at zz
    replace g1 := g1.below bb
    replace g2 := g2.below bb
    replace cb : Below w.heap.size w v10 := by first | exact cb.trans (bb.mono cb.size) | exact cb.drew.trans (bb.mono cb.drew.size)
    clear bb
    go_wp2_with fail
    refine (markAddrS_any _ g2 (by omega) (by omega) (by omega) (by omega) (by omega)).mono ?_
    rintro e v11 ⟨rfl, gm, bb⟩
    have zz := bb.size
    try simp only [World.size_drew, World.size_alloc] at zz
    replace cb : Below w.heap.size w v11 := cb.trans (bb.below cb.size (fun k hk => by have := hk.1; omega))
    replace g1 := g1.keep bb (fun k hk => by have h1 := hk.1; have h2 := hk.2; omega)
    clear bb
    clear g2
    go_wp2_with fail
    refine (heldAddrS_any _ (Reads.of_own gm.1) (by omega) (by omega) (by omega)).mono ?_
    rintro e v12 ⟨rfl, bb⟩
    have zz := bb.size
    try simp only [World.size_drew, World.size_alloc] at zz
    replace g1 := g1.below bb
    replace gm := gm.below bb
    replace cb : Below w.heap.size w v12 := by first | exact cb.trans (bb.mono cb.size) | exact cb.drew.trans (bb.mono cb.drew.size)
    clear bb
    go_wp2_with fail
    refine (toAddrS_any (n := n0) _ ((hx.below cb).more cb.size) (by omega)).mono ?_
    rintro e v13 ⟨Ao4, Co4, rfl, o4, bb⟩
    have zz := bb.size
    try simp only [World.size_drew, World.size_alloc] at zz
    replace g1 := g1.below bb
    replace gm := gm.below bb
    replace cb : Below w.heap.size w v13 := by first | exact cb.trans (bb.mono cb.size) | exact cb.drew.trans (bb.mono cb.drew.size)
    clear bb
    go_wp2_with fail
    refine (sortAddrs_impl _ (Reads.of_own o4.1) (by omega)).mono ?_
    rintro e v14 ⟨x4, A4, C4, s4, l4, rfl, g4, bb⟩
    have zz := bb.size
    try simp only [World.size_drew, World.size_alloc] at zz
    replace g1 := g1.below bb
    replace gm := gm.below bb
    replace o4 := o4.below bb
    replace cb : Below w.heap.size w v14 := by first | exact cb.trans (bb.mono cb.size) | exact cb.drew.trans (bb.mono cb.drew.size)
    clear bb
    obtain rfl := s4.unique s1
    clear o4
    go_wp2_with fail
    refine (eqAddrS_yes _ (Reads.of_own g4.1) (Reads.of_own g1.1) (by omega)).mono ?_
    rintro e v15 ⟨rfl, bb⟩
    have zz := bb.size
    try simp only [World.size_drew, World.size_alloc] at zz
    replace g1 := g1.below bb
    replace gm := gm.below bb
    replace g4 := g4.below bb
    replace cb : Below w.heap.size w v15 := by first | exact cb.trans (bb.mono cb.size) | exact cb.drew.trans (bb.mono cb.drew.size)
    clear bb
    go_wp2_with fail
    refine (heldAddrS_any _ (Reads.of_own gm.1) (by omega) (by omega) (by omega)).mono ?_
    rintro e v16 ⟨rfl, bb⟩
    have zz := bb.size
    try simp only [World.size_drew, World.size_alloc] at zz
    replace g1 := g1.below bb
    replace gm := gm.below bb
    replace g4 := g4.below bb
    replace cb : Below w.heap.size w v16 := by first | exact cb.trans (bb.mono cb.size) | exact cb.drew.trans (bb.mono cb.drew.size)
    clear bb
    go_wp2
    go_ret
    exact ⟨rfl, cb⟩

end Go.Proofs.Ytipfhedbeeabdaa
