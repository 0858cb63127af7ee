/-
  The walks of the generated laws of the functions FindAttr and FormatToken. No condition.
-/
import Derived.Test.YtflcknknkekkfaaFda
import Derived.Test.YtflcknknkekkfaaFtk
import Derived.Test.YtflcknknkekkfaaNop
import Derived.Deep.RegionHeld3
namespace Go.Proofs.Ytflcknknkekkfaa
set_option linter.unusedVariables false
set_option linter.unusedSimpArgs false
set_option maxRecDepth 100000
open Go.ChangeShapes Go.WideShapes Go.ChangeAt Go.RowKit Go.Deep

set_option maxHeartbeats 2000000 in
theorem fnExactFindAttr_walk (w : World) (a0 : Option Addr) (n0 c0 : Nat) (z0 : List S2) (g0 : ArgS2 w a0 n0 z0) (s1 : ByteArray) (g1 : s1.size ≤ maxLen) :
    Calls Try.prog 3 #[.slice a0 n0 c0, .string s1] w fun e w' => e = .returned (.bool true) ∧ Below w.heap.size w w' := by
  unfold maxLen at g1
  by_cases xx : 1048576 < s1.size
  · go_enter Try.func3, Try.ntmps3
    go_wp2
    go_ret
    exact ⟨rfl, Below.refl _ _⟩
  have Xs1 : s1.size ≤ 1048576 := by omega
  clear xx
  obtain ⟨y0, n0', hx, hz⟩ := g0
  unfold maxLen at n0'
  have Y0 := Lib.hid y0
  clear y0
  have nn := s2sz_nonneg z0
  have cb : Below w.heap.size w w := Below.refl _ _
  go_enter Try.func3, Try.ntmps3
  go_wp2_with fail
  refine (szAttrS_s2 _ hx (by omega) hz _ (by omega) (by omega)).mono ?_
  rintro e v1 ⟨r1, rfl, h1a, h1b, h1c, bb⟩
  have zz := bb.size
  try simp only [World.size_drew, World.size_alloc] at zz
  replace hx := hx.next bb
  replace cb : Below w.heap.size w v1 := by first | exact cb.trans (bb.mono cb.size) | exact cb.drew.trans (bb.mono cb.drew.size)
  clear bb
  rcases Int.lt_or_le r1 0 with hneg | hpos
  · go_wp2
    go_ret
    exact ⟨rfl, cb⟩
  · have h1d := h1c hpos
    clear h1c
    have hs := fun (W : World) (A : Option Addr) (C : Nat) (h : Reads W W.heap.size 2 A n0 (s2V z0)) => findAttr_spec (c := C) s1 W h (by omega)
    have hi := fun (W : World) (A : Option Addr) (C : Nat) (h : Reads W W.heap.size 2 A n0 (s2V z0)) => findAttr_impl (c := C) s1 W h (by omega)
    generalize findV z0 s1 = F at hs hi
    obtain ⟨F1, F2⟩ := F
    simp only at hs hi
    go_wp2_with fail
    refine (toAttrS_any (n := n0) _ hx (by omega)).mono ?_
    rintro e v2 ⟨Ao1, Co1, rfl, o1, bb⟩
    have zz := bb.size
    try simp only [World.size_drew, World.size_alloc] at zz
    replace hx := hx.next bb
    replace cb : Below w.heap.size w v2 := by first | exact cb.trans (bb.mono cb.size) | exact cb.drew.trans (bb.mono cb.drew.size)
    clear bb
    go_wp2_with fail
    refine (hs _ _ _ (Reads.of_own o1.1)).mono ?_
    rintro e v3 ⟨rfl, bb⟩
    have zz := bb.size
    try simp only [World.size_drew, World.size_alloc] at zz
    replace o1 := o1.below bb
    replace hx := hx.next bb
    replace cb : Below w.heap.size w v3 := by first | exact cb.trans (bb.mono cb.size) | exact cb.drew.trans (bb.mono cb.drew.size)
    clear bb
    clear o1
    go_wp2_with fail
    refine (toAttrS_any (n := n0) _ hx (by omega)).mono ?_
    rintro e v4 ⟨Ao2, Co2, rfl, o2, bb⟩
    have zz := bb.size
    try simp only [World.size_drew, World.size_alloc] at zz
    replace hx := hx.next bb
    replace cb : Below w.heap.size w v4 := by first | exact cb.trans (bb.mono cb.size) | exact cb.drew.trans (bb.mono cb.drew.size)
    clear bb
    go_wp2_with fail
    refine (hi _ _ _ (Reads.of_own o2.1)).mono ?_
    rintro e v5 ⟨rfl, bb⟩
    have zz := bb.size
    try simp only [World.size_drew, World.size_alloc] at zz
    replace o2 := o2.below bb
    replace hx := hx.next bb
    replace cb : Below w.heap.size w v5 := by first | exact cb.trans (bb.mono cb.size) | exact cb.drew.trans (bb.mono cb.drew.size)
    clear bb
    go_wp2_with fail
    refine (toAttrS_any (n := n0) _ hx (by omega)).mono ?_
    rintro e v6 ⟨Ao3, Co3, rfl, o3, bb⟩
    have zz := bb.size
    try simp only [World.size_drew, World.size_alloc] at zz
    replace o2 := o2.below bb
    replace hx := hx.next bb
    replace cb : Below w.heap.size w v6 := by first | exact cb.trans (bb.mono cb.size) | exact cb.drew.trans (bb.mono cb.drew.size)
    clear bb
    go_wp2_with fail
    refine (eqAttrS_yes _ (Reads.of_own o2.1) (Reads.of_own o3.1) (by omega)).mono ?_
    rintro e v7 ⟨rfl, bb⟩
    have zz := bb.size
    try simp only [World.size_drew, World.size_alloc] at zz
    replace o2 := o2.below bb
    replace o3 := o3.below bb
    replace hx := hx.next bb
    replace cb : Below w.heap.size w v7 := by first | exact cb.trans (bb.mono cb.size) | exact cb.drew.trans (bb.mono cb.drew.size)
    clear bb
    go_wp2
    go_ret
    exact ⟨rfl, cb⟩

set_option maxHeartbeats 2000000 in
theorem fnExactFormatToken_walk (w : World) (t : Tok) (a0 : Option Addr) (c0 : Nat) (hx : Reads w w.heap.size 2 a0 t.attrs.length (s2V t.attrs)) (ok : okTok t) :
    Calls Try.prog 4 #[.agg #[.int .i64 t.kind, .string t.name, .slice a0 t.attrs.length c0, .string t.text]] w fun e w' => e = .returned (.bool true) ∧ Below w.heap.size w w' := by
  obtain ⟨⟨k0, k1⟩, z1, ⟨z2, z3⟩, z4⟩ := ok
  unfold maxLen at z2
  have nn := s2sz_nonneg t.attrs
  have cb : Below w.heap.size w w := Below.refl _ _
  have K0 : (w.alloc (.cells #[.int .i64 t.kind, .string t.name, .slice a0 t.attrs.length c0, .string t.text] 31)).cell? ⟨w.heap.size, 0, none⟩ = some (.int .i64 t.kind) := by simp [go_sem]
  have K1 : (w.alloc (.cells #[.int .i64 t.kind, .string t.name, .slice a0 t.attrs.length c0, .string t.text] 31)).cell? ⟨w.heap.size, 1, none⟩ = some (.string t.name) := by simp [go_sem]
  have K2 : (w.alloc (.cells #[.int .i64 t.kind, .string t.name, .slice a0 t.attrs.length c0, .string t.text] 31)).cell? ⟨w.heap.size, 2, none⟩ = some (.slice a0 t.attrs.length c0) := by simp [go_sem]
  have K3 : (w.alloc (.cells #[.int .i64 t.kind, .string t.name, .slice a0 t.attrs.length c0, .string t.text] 31)).cell? ⟨w.heap.size, 3, none⟩ = some (.string t.text) := by simp [go_sem]
  replace hx := hx.next ((Below.refl _ _).alloc (Nat.le_refl _) (.cells #[.int .i64 t.kind, .string t.name, .slice a0 t.attrs.length c0, .string t.text] 31))
  replace cb : Below w.heap.size w (w.alloc (.cells #[.int .i64 t.kind, .string t.name, .slice a0 t.attrs.length c0, .string t.text] 31)) := cb.alloc cb.size (.cells #[.int .i64 t.kind, .string t.name, .slice a0 t.attrs.length c0, .string t.text] 31)
  have zz : w.heap.size < (w.alloc (.cells #[.int .i64 t.kind, .string t.name, .slice a0 t.attrs.length c0, .string t.text] 31)).heap.size := by simp
  go_enter Try.func4, Try.ntmps4
  go_wp2_with fail
  refine (szToken_any t _ hx z1 z2 z3 z4 _ (by omega) (by omega)).mono ?_
  rintro e v1 ⟨r1, rfl, h1a, h1b, h1c, bb⟩
  have zz := bb.size
  try simp only [World.size_drew, World.size_alloc] at zz
  replace hx := hx.next bb
  replace K0 : v1.cell? ⟨w.heap.size, 0, none⟩ = some (.int .i64 t.kind) := ((bcell bb).1 _ _ (by first | omega | (simp; done) | (simp; omega))).trans (by first | exact K0 | (simp only [World.cell?_drew]; exact K0) | (simp [go_sem]; done))
  replace K1 : v1.cell? ⟨w.heap.size, 1, none⟩ = some (.string t.name) := ((bcell bb).1 _ _ (by first | omega | (simp; done) | (simp; omega))).trans (by first | exact K1 | (simp only [World.cell?_drew]; exact K1) | (simp [go_sem]; done))
  replace K2 : v1.cell? ⟨w.heap.size, 2, none⟩ = some (.slice a0 t.attrs.length c0) := ((bcell bb).1 _ _ (by first | omega | (simp; done) | (simp; omega))).trans (by first | exact K2 | (simp only [World.cell?_drew]; exact K2) | (simp [go_sem]; done))
  replace K3 : v1.cell? ⟨w.heap.size, 3, none⟩ = some (.string t.text) := ((bcell bb).1 _ _ (by first | omega | (simp; done) | (simp; omega))).trans (by first | exact K3 | (simp only [World.cell?_drew]; exact K3) | (simp [go_sem]; done))
  replace cb : Below w.heap.size w v1 := by first | exact cb.trans (bb.mono cb.size) | exact cb.drew.trans (bb.mono cb.drew.size)
  clear bb
  rcases Int.lt_or_le r1 0 with hneg | hpos
  · go_wp2
    go_ret
    exact ⟨rfl, cb⟩
  · have h1d := h1c hpos
    clear h1c
    have hbd : tokSz t ≤ 1048576 := by omega
    have hnn : t.attrs.length ≤ 1048576 := by unfold tokSz at hbd; omega
    go_wp2_with fail
    refine (toToken_any t _ hx (by omega)).mono ?_
    rintro e v2 ⟨A1, C1, rfl, o1, bb⟩
    have zz := bb.size
    try simp only [World.size_drew, World.size_alloc] at zz
    replace hx := hx.next bb
    replace K0 : v2.cell? ⟨w.heap.size, 0, none⟩ = some (.int .i64 t.kind) := ((bcell bb).1 _ _ (by first | omega | (simp; done) | (simp; omega))).trans (by first | exact K0 | (simp only [World.cell?_drew]; exact K0) | (simp [go_sem]; done))
    replace K1 : v2.cell? ⟨w.heap.size, 1, none⟩ = some (.string t.name) := ((bcell bb).1 _ _ (by first | omega | (simp; done) | (simp; omega))).trans (by first | exact K1 | (simp only [World.cell?_drew]; exact K1) | (simp [go_sem]; done))
    replace K2 : v2.cell? ⟨w.heap.size, 2, none⟩ = some (.slice a0 t.attrs.length c0) := ((bcell bb).1 _ _ (by first | omega | (simp; done) | (simp; omega))).trans (by first | exact K2 | (simp only [World.cell?_drew]; exact K2) | (simp [go_sem]; done))
    replace K3 : v2.cell? ⟨w.heap.size, 3, none⟩ = some (.string t.text) := ((bcell bb).1 _ _ (by first | omega | (simp; done) | (simp; omega))).trans (by first | exact K3 | (simp only [World.cell?_drew]; exact K3) | (simp [go_sem]; done))
    replace cb : Below w.heap.size w v2 := by first | exact cb.trans (bb.mono cb.size) | exact cb.drew.trans (bb.mono cb.drew.size)
    clear bb
    go_wp2_with fail
    refine (formatToken_spec t _ (Reads.of_own o1.1) (by omega)).mono ?_
    rintro e v3 ⟨rfl, bb⟩
    have zz := bb.size
    try simp only [World.size_drew, World.size_alloc] at zz
    replace o1 := o1.below bb
    replace hx := hx.next bb
    replace K0 : v3.cell? ⟨w.heap.size, 0, none⟩ = some (.int .i64 t.kind) := ((bcell bb).1 _ _ (by first | omega | (simp; done) | (simp; omega))).trans (by first | exact K0 | (simp only [World.cell?_drew]; exact K0) | (simp [go_sem]; done))
    replace K1 : v3.cell? ⟨w.heap.size, 1, none⟩ = some (.string t.name) := ((bcell bb).1 _ _ (by first | omega | (simp; done) | (simp; omega))).trans (by first | exact K1 | (simp only [World.cell?_drew]; exact K1) | (simp [go_sem]; done))
    replace K2 : v3.cell? ⟨w.heap.size, 2, none⟩ = some (.slice a0 t.attrs.length c0) := ((bcell bb).1 _ _ (by first | omega | (simp; done) | (simp; omega))).trans (by first | exact K2 | (simp only [World.cell?_drew]; exact K2) | (simp [go_sem]; done))
    replace K3 : v3.cell? ⟨w.heap.size, 3, none⟩ = some (.string t.text) := ((bcell bb).1 _ _ (by first | omega | (simp; done) | (simp; omega))).trans (by first | exact K3 | (simp only [World.cell?_drew]; exact K3) | (simp [go_sem]; done))
    replace cb : Below w.heap.size w v3 := by first | exact cb.trans (bb.mono cb.size) | exact cb.drew.trans (bb.mono cb.drew.size)
    clear bb
    clear o1
    go_wp2_with fail
    refine (toToken_any t _ hx (by omega)).mono ?_
    rintro e v4 ⟨A2, C2, rfl, o2, bb⟩
    have zz := bb.size
    try simp only [World.size_drew, World.size_alloc] at zz
    replace hx := hx.next bb
    replace K0 : v4.cell? ⟨w.heap.size, 0, none⟩ = some (.int .i64 t.kind) := ((bcell bb).1 _ _ (by first | omega | (simp; done) | (simp; omega))).trans (by first | exact K0 | (simp only [World.cell?_drew]; exact K0) | (simp [go_sem]; done))
    replace K1 : v4.cell? ⟨w.heap.size, 1, none⟩ = some (.string t.name) := ((bcell bb).1 _ _ (by first | omega | (simp; done) | (simp; omega))).trans (by first | exact K1 | (simp only [World.cell?_drew]; exact K1) | (simp [go_sem]; done))
    replace K2 : v4.cell? ⟨w.heap.size, 2, none⟩ = some (.slice a0 t.attrs.length c0) := ((bcell bb).1 _ _ (by first | omega | (simp; done) | (simp; omega))).trans (by first | exact K2 | (simp only [World.cell?_drew]; exact K2) | (simp [go_sem]; done))
    replace K3 : v4.cell? ⟨w.heap.size, 3, none⟩ = some (.string t.text) := ((bcell bb).1 _ _ (by first | omega | (simp; done) | (simp; omega))).trans (by first | exact K3 | (simp only [World.cell?_drew]; exact K3) | (simp [go_sem]; done))
    replace cb : Below w.heap.size w v4 := by first | exact cb.trans (bb.mono cb.size) | exact cb.drew.trans (bb.mono cb.drew.size)
    clear bb
    replace K0 : (v4.alloc (.cells #[.int .i64 t.kind, .string t.name, .slice A2 t.attrs.length C2, .string t.text] 35)).cell? ⟨w.heap.size, 0, none⟩ = some (.int .i64 t.kind) := (World.cell?_alloc_some _ _ _ (by rw [K0]; rfl)).trans K0
    replace K1 : (v4.alloc (.cells #[.int .i64 t.kind, .string t.name, .slice A2 t.attrs.length C2, .string t.text] 35)).cell? ⟨w.heap.size, 1, none⟩ = some (.string t.name) := (World.cell?_alloc_some _ _ _ (by rw [K1]; rfl)).trans K1
    replace K2 : (v4.alloc (.cells #[.int .i64 t.kind, .string t.name, .slice A2 t.attrs.length C2, .string t.text] 35)).cell? ⟨w.heap.size, 2, none⟩ = some (.slice a0 t.attrs.length c0) := (World.cell?_alloc_some _ _ _ (by rw [K2]; rfl)).trans K2
    replace K3 : (v4.alloc (.cells #[.int .i64 t.kind, .string t.name, .slice A2 t.attrs.length C2, .string t.text] 35)).cell? ⟨w.heap.size, 3, none⟩ = some (.string t.text) := (World.cell?_alloc_some _ _ _ (by rw [K3]; rfl)).trans K3
    have K4 : (v4.alloc (.cells #[.int .i64 t.kind, .string t.name, .slice A2 t.attrs.length C2, .string t.text] 35)).cell? ⟨v4.heap.size, 0, none⟩ = some (.int .i64 t.kind) := by simp [go_sem]
    have K5 : (v4.alloc (.cells #[.int .i64 t.kind, .string t.name, .slice A2 t.attrs.length C2, .string t.text] 35)).cell? ⟨v4.heap.size, 1, none⟩ = some (.string t.name) := by simp [go_sem]
    have K6 : (v4.alloc (.cells #[.int .i64 t.kind, .string t.name, .slice A2 t.attrs.length C2, .string t.text] 35)).cell? ⟨v4.heap.size, 2, none⟩ = some (.slice A2 t.attrs.length C2) := by simp [go_sem]
    have K7 : (v4.alloc (.cells #[.int .i64 t.kind, .string t.name, .slice A2 t.attrs.length C2, .string t.text] 35)).cell? ⟨v4.heap.size, 3, none⟩ = some (.string t.text) := by simp [go_sem]
    replace o2 := o2.below ((Below.refl _ _).alloc (Nat.le_refl _) (.cells #[.int .i64 t.kind, .string t.name, .slice A2 t.attrs.length C2, .string t.text] 35))
    replace hx := hx.next ((Below.refl _ _).alloc (Nat.le_refl _) (.cells #[.int .i64 t.kind, .string t.name, .slice A2 t.attrs.length C2, .string t.text] 35))
    replace cb : Below w.heap.size w (v4.alloc (.cells #[.int .i64 t.kind, .string t.name, .slice A2 t.attrs.length C2, .string t.text] 35)) := cb.alloc cb.size (.cells #[.int .i64 t.kind, .string t.name, .slice A2 t.attrs.length C2, .string t.text] 35)
    have zz : v4.heap.size < (v4.alloc (.cells #[.int .i64 t.kind, .string t.name, .slice A2 t.attrs.length C2, .string t.text] 35)).heap.size := by simp
    go_wp2_with fail
    refine (formatToken_impl t _ (Reads.of_own o2.1) (by omega)).mono ?_
    rintro e v5 ⟨rfl, bb⟩
    have zz := bb.size
    try simp only [World.size_drew, World.size_alloc] at zz
    replace o2 := o2.below bb
    replace hx := hx.next bb
    replace K0 : v5.cell? ⟨w.heap.size, 0, none⟩ = some (.int .i64 t.kind) := ((bcell bb).1 _ _ (by first | omega | (simp; done) | (simp; omega))).trans (by first | exact K0 | (simp only [World.cell?_drew]; exact K0) | (simp [go_sem]; done))
    replace K1 : v5.cell? ⟨w.heap.size, 1, none⟩ = some (.string t.name) := ((bcell bb).1 _ _ (by first | omega | (simp; done) | (simp; omega))).trans (by first | exact K1 | (simp only [World.cell?_drew]; exact K1) | (simp [go_sem]; done))
    replace K2 : v5.cell? ⟨w.heap.size, 2, none⟩ = some (.slice a0 t.attrs.length c0) := ((bcell bb).1 _ _ (by first | omega | (simp; done) | (simp; omega))).trans (by first | exact K2 | (simp only [World.cell?_drew]; exact K2) | (simp [go_sem]; done))
    replace K3 : v5.cell? ⟨w.heap.size, 3, none⟩ = some (.string t.text) := ((bcell bb).1 _ _ (by first | omega | (simp; done) | (simp; omega))).trans (by first | exact K3 | (simp only [World.cell?_drew]; exact K3) | (simp [go_sem]; done))
    replace K4 : v5.cell? ⟨v4.heap.size, 0, none⟩ = some (.int .i64 t.kind) := ((bcell bb).1 _ _ (by first | omega | (simp; done) | (simp; omega))).trans (by first | exact K4 | (simp only [World.cell?_drew]; exact K4) | (simp [go_sem]; done))
    replace K5 : v5.cell? ⟨v4.heap.size, 1, none⟩ = some (.string t.name) := ((bcell bb).1 _ _ (by first | omega | (simp; done) | (simp; omega))).trans (by first | exact K5 | (simp only [World.cell?_drew]; exact K5) | (simp [go_sem]; done))
    replace K6 : v5.cell? ⟨v4.heap.size, 2, none⟩ = some (.slice A2 t.attrs.length C2) := ((bcell bb).1 _ _ (by first | omega | (simp; done) | (simp; omega))).trans (by first | exact K6 | (simp only [World.cell?_drew]; exact K6) | (simp [go_sem]; done))
    replace K7 : v5.cell? ⟨v4.heap.size, 3, none⟩ = some (.string t.text) := ((bcell bb).1 _ _ (by first | omega | (simp; done) | (simp; omega))).trans (by first | exact K7 | (simp only [World.cell?_drew]; exact K7) | (simp [go_sem]; done))
    replace cb : Below w.heap.size w v5 := by first | exact cb.trans (bb.mono cb.size) | exact cb.drew.trans (bb.mono cb.drew.size)
    clear bb
    generalize fmtT t = FT
    go_wp2_with fail
    go_region_held3 (fun v : World => v.cell? ⟨w.heap.size, 0, none⟩ = some (.int .i64 t.kind) ∧ v.cell? ⟨w.heap.size, 1, none⟩ = some (.string t.name) ∧ v.cell? ⟨w.heap.size, 2, none⟩ = some (.slice a0 t.attrs.length c0) ∧ v.cell? ⟨w.heap.size, 3, none⟩ = some (.string t.text) ∧ v.cell? ⟨v4.heap.size, 0, none⟩ = some (.int .i64 t.kind) ∧ v.cell? ⟨v4.heap.size, 1, none⟩ = some (.string t.name) ∧ v.cell? ⟨v4.heap.size, 2, none⟩ = some (.slice A2 t.attrs.length C2) ∧ v.cell? ⟨v4.heap.size, 3, none⟩ = some (.string t.text))
      (first
        | exact ⟨K0, K1, K2, K3, K4, K5, K6, K7⟩
        | (refine ⟨?_, ?_, ?_, ?_, ?_, ?_, ?_, ?_⟩ <;> simp only [World.cell?_drew] <;> assumption))
      (first
        | (go_at_call 22
           refine (toToken_any t _ (by first | exact hx | exact hx.drew) (by omega)).mono ?_
           rintro e v6 ⟨A3, C3, rfl, o3, bb⟩
           have zz := bb.size
           try simp only [World.size_drew, World.size_alloc] at zz
           (first | replace o2 := o2.below bb | replace o2 := (Own.drew o2).below bb)
           (first | replace hx := hx.next bb | replace hx := hx.drew.next bb)
           replace K0 : v6.cell? ⟨w.heap.size, 0, none⟩ = some (.int .i64 t.kind) := ((bcell bb).1 _ _ (by first | omega | (simp; done) | (simp; omega))).trans (by first | exact K0 | (simp only [World.cell?_drew]; exact K0) | (simp [go_sem]; done))
           replace K1 : v6.cell? ⟨w.heap.size, 1, none⟩ = some (.string t.name) := ((bcell bb).1 _ _ (by first | omega | (simp; done) | (simp; omega))).trans (by first | exact K1 | (simp only [World.cell?_drew]; exact K1) | (simp [go_sem]; done))
           replace K2 : v6.cell? ⟨w.heap.size, 2, none⟩ = some (.slice a0 t.attrs.length c0) := ((bcell bb).1 _ _ (by first | omega | (simp; done) | (simp; omega))).trans (by first | exact K2 | (simp only [World.cell?_drew]; exact K2) | (simp [go_sem]; done))
           replace K3 : v6.cell? ⟨w.heap.size, 3, none⟩ = some (.string t.text) := ((bcell bb).1 _ _ (by first | omega | (simp; done) | (simp; omega))).trans (by first | exact K3 | (simp only [World.cell?_drew]; exact K3) | (simp [go_sem]; done))
           replace K4 : v6.cell? ⟨v4.heap.size, 0, none⟩ = some (.int .i64 t.kind) := ((bcell bb).1 _ _ (by first | omega | (simp; done) | (simp; omega))).trans (by first | exact K4 | (simp only [World.cell?_drew]; exact K4) | (simp [go_sem]; done))
           replace K5 : v6.cell? ⟨v4.heap.size, 1, none⟩ = some (.string t.name) := ((bcell bb).1 _ _ (by first | omega | (simp; done) | (simp; omega))).trans (by first | exact K5 | (simp only [World.cell?_drew]; exact K5) | (simp [go_sem]; done))
           replace K6 : v6.cell? ⟨v4.heap.size, 2, none⟩ = some (.slice A2 t.attrs.length C2) := ((bcell bb).1 _ _ (by first | omega | (simp; done) | (simp; omega))).trans (by first | exact K6 | (simp only [World.cell?_drew]; exact K6) | (simp [go_sem]; done))
           replace K7 : v6.cell? ⟨v4.heap.size, 3, none⟩ = some (.string t.text) := ((bcell bb).1 _ _ (by first | omega | (simp; done) | (simp; omega))).trans (by first | exact K7 | (simp only [World.cell?_drew]; exact K7) | (simp [go_sem]; done))
           replace cb : Below w.heap.size w v6 := by first | exact cb.trans (bb.mono cb.size) | exact cb.drew.trans (bb.mono cb.drew.size)
           clear bb)
        | (go_at_call 24
           refine (eqToken_yes t _ (Reads.of_own o2.1) (Reads.of_own o3.1) (by omega)).mono ?_
           rintro e v7 ⟨rfl, bb⟩
           have zz := bb.size
           try simp only [World.size_drew, World.size_alloc] at zz
           (first | replace o2 := o2.below bb | replace o2 := (Own.drew o2).below bb)
           (first | replace o3 := o3.below bb | replace o3 := (Own.drew o3).below bb)
           (first | replace hx := hx.next bb | replace hx := hx.drew.next bb)
           replace K0 : v7.cell? ⟨w.heap.size, 0, none⟩ = some (.int .i64 t.kind) := ((bcell bb).1 _ _ (by first | omega | (simp; done) | (simp; omega))).trans (by first | exact K0 | (simp only [World.cell?_drew]; exact K0) | (simp [go_sem]; done))
           replace K1 : v7.cell? ⟨w.heap.size, 1, none⟩ = some (.string t.name) := ((bcell bb).1 _ _ (by first | omega | (simp; done) | (simp; omega))).trans (by first | exact K1 | (simp only [World.cell?_drew]; exact K1) | (simp [go_sem]; done))
           replace K2 : v7.cell? ⟨w.heap.size, 2, none⟩ = some (.slice a0 t.attrs.length c0) := ((bcell bb).1 _ _ (by first | omega | (simp; done) | (simp; omega))).trans (by first | exact K2 | (simp only [World.cell?_drew]; exact K2) | (simp [go_sem]; done))
           replace K3 : v7.cell? ⟨w.heap.size, 3, none⟩ = some (.string t.text) := ((bcell bb).1 _ _ (by first | omega | (simp; done) | (simp; omega))).trans (by first | exact K3 | (simp only [World.cell?_drew]; exact K3) | (simp [go_sem]; done))
           replace K4 : v7.cell? ⟨v4.heap.size, 0, none⟩ = some (.int .i64 t.kind) := ((bcell bb).1 _ _ (by first | omega | (simp; done) | (simp; omega))).trans (by first | exact K4 | (simp only [World.cell?_drew]; exact K4) | (simp [go_sem]; done))
           replace K5 : v7.cell? ⟨v4.heap.size, 1, none⟩ = some (.string t.name) := ((bcell bb).1 _ _ (by first | omega | (simp; done) | (simp; omega))).trans (by first | exact K5 | (simp only [World.cell?_drew]; exact K5) | (simp [go_sem]; done))
           replace K6 : v7.cell? ⟨v4.heap.size, 2, none⟩ = some (.slice A2 t.attrs.length C2) := ((bcell bb).1 _ _ (by first | omega | (simp; done) | (simp; omega))).trans (by first | exact K6 | (simp only [World.cell?_drew]; exact K6) | (simp [go_sem]; done))
           replace K7 : v7.cell? ⟨v4.heap.size, 3, none⟩ = some (.string t.text) := ((bcell bb).1 _ _ (by first | omega | (simp; done) | (simp; omega))).trans (by first | exact K7 | (simp only [World.cell?_drew]; exact K7) | (simp [go_sem]; done))
           replace cb : Below w.heap.size w v7 := by first | exact cb.trans (bb.mono cb.size) | exact cb.drew.trans (bb.mono cb.drew.size)
           clear bb))
    go_wp2
    go_ret
    exact ⟨rfl, cb⟩

end Go.Proofs.Ytflcknknkekkfaa
