/-
  The walk of the generated law of the function AddToken. No condition.
-/
import Derived.Test.YtflcknknkekkfaaLn
import Derived.Test.YtflcknknkekkfaaLh
import Derived.Deep.Cut
import Derived.Deep.RegionWith
import Derived.Deep.RegionHeld3
namespace Go.Proofs.Ytflcknknkekkfaa
set_option linter.unusedVariables false
set_option linter.unusedSimpArgs false
set_option maxRecDepth 100000
open Go.ChangeShapes Go.WideShapes Go.ChangeAt Go.RowKit Go.Deep


set_option maxHeartbeats 2000000 in
theorem fnExactAddToken_walk (w : World) (a0 : Option Addr) (n0 c0 : Nat) (l0 : List Nod) (a0' : Option Addr) (n0' c0' : Nat) (z0 : List Int) (g0 : ArgB w a0 n0 l0 a0' n0' z0) (t1 : Tok) (a1 : Option Addr) (c1 : Nat) (hx1 : Reads w w.heap.size 2 a1 t1.attrs.length (s2V t1.attrs)) (ok1 : okTok t1) :
    Calls Try.prog 13 #[.agg #[.slice a0 n0 c0, .slice a0' n0' c0'], .agg #[.int .i64 t1.kind, .string t1.name, .slice a1 t1.attrs.length c1, .string t1.text]] w fun e w' => e = .returned (.bool true) ∧ Below w.heap.size w w' := by
  obtain ⟨q01, q02, q03, q04, q05, q06, q07⟩ := g0
  have hx0 : ReadsB w w.heap.size a0 n0 a0' n0' ⟨l0, z0⟩ := ⟨q02, q06⟩
  clear q02 q06 q04
  obtain ⟨⟨k0, k1⟩, k2, ⟨k3, k4⟩, k5⟩ := ok1
  unfold maxLen at k3
  have cb : Below w.heap.size w w := Below.refl _ _
  have K0 : (w.alloc (.cells #[.slice a0 n0 c0, .slice a0' n0' c0'] 59)).cell? ⟨w.heap.size, 0, none⟩ = some (.slice a0 n0 c0) := by simp [go_sem]
  have K1 : (w.alloc (.cells #[.slice a0 n0 c0, .slice a0' n0' c0'] 59)).cell? ⟨w.heap.size, 1, none⟩ = some (.slice a0' n0' c0') := by simp [go_sem]
  replace cb : Below w.heap.size w (w.alloc (.cells #[.slice a0 n0 c0, .slice a0' n0' c0'] 59)) := cb.alloc cb.size (.cells #[.slice a0 n0 c0, .slice a0' n0' c0'] 59)
  have zz : w.heap.size < (w.alloc (.cells #[.slice a0 n0 c0, .slice a0' n0' c0'] 59)).heap.size := by simp
  replace K0 : ((w.alloc (.cells #[.slice a0 n0 c0, .slice a0' n0' c0'] 59)).alloc (.cells #[.int .i64 t1.kind, .string t1.name, .slice a1 t1.attrs.length c1, .string t1.text] 31)).cell? ⟨w.heap.size, 0, none⟩ = some (.slice a0 n0 c0) := (World.cell?_alloc_some _ _ _ (by rw [K0]; rfl)).trans K0
  replace K1 : ((w.alloc (.cells #[.slice a0 n0 c0, .slice a0' n0' c0'] 59)).alloc (.cells #[.int .i64 t1.kind, .string t1.name, .slice a1 t1.attrs.length c1, .string t1.text] 31)).cell? ⟨w.heap.size, 1, none⟩ = some (.slice a0' n0' c0') := (World.cell?_alloc_some _ _ _ (by rw [K1]; rfl)).trans K1
  have K2 : ((w.alloc (.cells #[.slice a0 n0 c0, .slice a0' n0' c0'] 59)).alloc (.cells #[.int .i64 t1.kind, .string t1.name, .slice a1 t1.attrs.length c1, .string t1.text] 31)).cell? ⟨w.heap.size + 1, 0, none⟩ = some (.int .i64 t1.kind) := by simp [go_sem]
  have K3 : ((w.alloc (.cells #[.slice a0 n0 c0, .slice a0' n0' c0'] 59)).alloc (.cells #[.int .i64 t1.kind, .string t1.name, .slice a1 t1.attrs.length c1, .string t1.text] 31)).cell? ⟨w.heap.size + 1, 1, none⟩ = some (.string t1.name) := by simp [go_sem]
  have K4 : ((w.alloc (.cells #[.slice a0 n0 c0, .slice a0' n0' c0'] 59)).alloc (.cells #[.int .i64 t1.kind, .string t1.name, .slice a1 t1.attrs.length c1, .string t1.text] 31)).cell? ⟨w.heap.size + 1, 2, none⟩ = some (.slice a1 t1.attrs.length c1) := by simp [go_sem]
  have K5 : ((w.alloc (.cells #[.slice a0 n0 c0, .slice a0' n0' c0'] 59)).alloc (.cells #[.int .i64 t1.kind, .string t1.name, .slice a1 t1.attrs.length c1, .string t1.text] 31)).cell? ⟨w.heap.size + 1, 3, none⟩ = some (.string t1.text) := by simp [go_sem]
  replace cb : Below w.heap.size w ((w.alloc (.cells #[.slice a0 n0 c0, .slice a0' n0' c0'] 59)).alloc (.cells #[.int .i64 t1.kind, .string t1.name, .slice a1 t1.attrs.length c1, .string t1.text] 31)) := cb.alloc cb.size (.cells #[.int .i64 t1.kind, .string t1.name, .slice a1 t1.attrs.length c1, .string t1.text] 31)
  have zz : (w.alloc (.cells #[.slice a0 n0 c0, .slice a0' n0' c0'] 59)).heap.size < ((w.alloc (.cells #[.slice a0 n0 c0, .slice a0' n0' c0'] 59)).alloc (.cells #[.int .i64 t1.kind, .string t1.name, .slice a1 t1.attrs.length c1, .string t1.text] 31)).heap.size := by simp
  go_enter Try.func13, Try.ntmps13
  go_wp2_with fail
  refine (szBuilder_any ⟨l0, z0⟩ _ (hx0.next cb) q01 q03 q05 _ (by omega) (by omega)).mono ?_
  rintro e v1 ⟨r1, rfl, h1a, h1b, h1c, bb⟩
  have zz := bb.size
  try simp only [World.size_drew, World.size_alloc] at zz
  replace K0 : v1.cell? ⟨w.heap.size, 0, none⟩ = some (.slice a0 n0 c0) := ((bcell bb).1 _ _ (by first | omega | (simp; done) | (simp; omega))).trans (by first | exact K0 | (simp only [World.cell?_drew]; exact K0) | (simp [go_sem]; done))
  replace K1 : v1.cell? ⟨w.heap.size, 1, none⟩ = some (.slice a0' n0' c0') := ((bcell bb).1 _ _ (by first | omega | (simp; done) | (simp; omega))).trans (by first | exact K1 | (simp only [World.cell?_drew]; exact K1) | (simp [go_sem]; done))
  replace K2 : v1.cell? ⟨w.heap.size + 1, 0, none⟩ = some (.int .i64 t1.kind) := ((bcell bb).1 _ _ (by first | omega | (simp; done) | (simp; omega))).trans (by first | exact K2 | (simp only [World.cell?_drew]; exact K2) | (simp [go_sem]; done))
  replace K3 : v1.cell? ⟨w.heap.size + 1, 1, none⟩ = some (.string t1.name) := ((bcell bb).1 _ _ (by first | omega | (simp; done) | (simp; omega))).trans (by first | exact K3 | (simp only [World.cell?_drew]; exact K3) | (simp [go_sem]; done))
  replace K4 : v1.cell? ⟨w.heap.size + 1, 2, none⟩ = some (.slice a1 t1.attrs.length c1) := ((bcell bb).1 _ _ (by first | omega | (simp; done) | (simp; omega))).trans (by first | exact K4 | (simp only [World.cell?_drew]; exact K4) | (simp [go_sem]; done))
  replace K5 : v1.cell? ⟨w.heap.size + 1, 3, none⟩ = some (.string t1.text) := ((bcell bb).1 _ _ (by first | omega | (simp; done) | (simp; omega))).trans (by first | exact K5 | (simp only [World.cell?_drew]; exact K5) | (simp [go_sem]; done))
  replace cb : Below w.heap.size w v1 := by first | exact cb.trans (bb.mono cb.size) | exact cb.drew.trans (bb.mono cb.drew.size)
  clear bb
  rcases Int.lt_or_le r1 0 with hneg | hpos
  · go_wp2
    go_ret
    exact ⟨rfl, cb⟩
  · have h1d := h1c hpos
    clear h1c
    have nb0 : 0 ≤ bldSz ⟨l0, z0⟩ := by have := nodsSz_nonneg l0; unfold bldSz; simp only; omega
    obtain ⟨y01, y02, y03, y04⟩ := bld_bounds hx0 (by omega)
    have hlen0 := hx0.len
    have hok : OkB ⟨l0, z0⟩ := ⟨by rw [hlen0.1]; omega, by rw [hlen0.2]; omega, y03, q07⟩
    have hz0 := totN_nods l0
    have hbl0 : (l0.length : Int) = n0 := by have := hlen0.1; simp only at this; omega
    have nt1 := tokSz_nonneg t1
    have nt2 := attrs_le_tokSz t1
    go_wp2_with fail
    refine (szToken_any t1 _ ((hx1.below cb).more cb.size) k2 k3 k4 k5 _ (by omega) (by omega)).mono ?_
    rintro e v2 ⟨r2, rfl, h2a, h2b, h2c, bb⟩
    have zz := bb.size
    try simp only [World.size_drew, World.size_alloc] at zz
    replace K0 : v2.cell? ⟨w.heap.size, 0, none⟩ = some (.slice a0 n0 c0) := ((bcell bb).1 _ _ (by first | omega | (simp; done) | (simp; omega))).trans (by first | exact K0 | (simp only [World.cell?_drew]; exact K0) | (simp [go_sem]; done))
    replace K1 : v2.cell? ⟨w.heap.size, 1, none⟩ = some (.slice a0' n0' c0') := ((bcell bb).1 _ _ (by first | omega | (simp; done) | (simp; omega))).trans (by first | exact K1 | (simp only [World.cell?_drew]; exact K1) | (simp [go_sem]; done))
    replace K2 : v2.cell? ⟨w.heap.size + 1, 0, none⟩ = some (.int .i64 t1.kind) := ((bcell bb).1 _ _ (by first | omega | (simp; done) | (simp; omega))).trans (by first | exact K2 | (simp only [World.cell?_drew]; exact K2) | (simp [go_sem]; done))
    replace K3 : v2.cell? ⟨w.heap.size + 1, 1, none⟩ = some (.string t1.name) := ((bcell bb).1 _ _ (by first | omega | (simp; done) | (simp; omega))).trans (by first | exact K3 | (simp only [World.cell?_drew]; exact K3) | (simp [go_sem]; done))
    replace K4 : v2.cell? ⟨w.heap.size + 1, 2, none⟩ = some (.slice a1 t1.attrs.length c1) := ((bcell bb).1 _ _ (by first | omega | (simp; done) | (simp; omega))).trans (by first | exact K4 | (simp only [World.cell?_drew]; exact K4) | (simp [go_sem]; done))
    replace K5 : v2.cell? ⟨w.heap.size + 1, 3, none⟩ = some (.string t1.text) := ((bcell bb).1 _ _ (by first | omega | (simp; done) | (simp; omega))).trans (by first | exact K5 | (simp only [World.cell?_drew]; exact K5) | (simp [go_sem]; done))
    replace cb : Below w.heap.size w v2 := by first | exact cb.trans (bb.mono cb.size) | exact cb.drew.trans (bb.mono cb.drew.size)
    clear bb
    rcases Int.lt_or_le r2 0 with hneg | hpos
    · go_wp2
      go_ret
      exact ⟨rfl, cb⟩
    · have h2d := h2c hpos
      clear h2c
      have e2 : t1.attrs.length ≤ 1073741824 := by omega
      have hg1 := addB_grow ⟨l0, z0⟩ t1
      simp only at hg1
      have hR : OkB (addB ⟨l0, z0⟩ t1).1 := hok.add e2
      have hspec : ∀ (W : World) (A A' B : Option Addr) (C C' D : Nat), ReadsB W W.heap.size A n0 A' n0' ⟨l0, z0⟩ → Reads W W.heap.size 2 B t1.attrs.length (s2V t1.attrs) → Calls Try.prog 54 #[.agg #[.slice A n0 C, .slice A' n0' C'], .agg #[.int .i64 t1.kind, .string t1.name, .slice B t1.attrs.length D, .string t1.text]] W (GotBI W 74 94 3 (addB ⟨l0, z0⟩ t1)) := fun W A A' B C C' D h h2 => addToken_spec W h (by omega) (by omega) hok.attrs h2 e2
      have himpl : ∀ (W : World) (A A' B : Option Addr) (C C' D : Nat), ReadsB W W.heap.size A n0 A' n0' ⟨l0, z0⟩ → Reads W W.heap.size 2 B t1.attrs.length (s2V t1.attrs) → Calls Try.prog 53 #[.agg #[.slice A n0 C, .slice A' n0' C'], .agg #[.int .i64 t1.kind, .string t1.name, .slice B t1.attrs.length D, .string t1.text]] W (GotBI W 74 94 3 (addB ⟨l0, z0⟩ t1)) := fun W A A' B C C' D h h2 => addToken_impl W h (by omega) (by omega) hok.attrs hok.ints h2 e2
      generalize addB ⟨l0, z0⟩ t1 = RR at hg1 hR hspec himpl
      obtain ⟨R1, KK⟩ := RR
      unfold GotBI at hspec himpl
      simp only at hg1 hR hspec himpl
      have hr1 : R1.nodes.length ≤ 2097152 := by omega
      have hr2 := hR.opens
      have hr3 := hR.attrs
      have hb9 : bldSz ⟨l0, z0⟩ = l0.length + nodsSz l0 + z0.length := rfl
      have hr4 : totN (R1.nodes.map nodN.num) ≤ 16777216 := by omega
      have tn := totN_nonneg (R1.nodes.map nodN.num)
      have hw4 : totN (l0.map nodN.num) ≤ 16777216 := by omega
      have hw5 : t1.attrs.length ≤ 16777216 := by omega
      clear hok hR hg1 hz0 k0 k1 k2 k3 k4 k5
      have V9 : ∃ x : World, x = v2 := ⟨_, rfl⟩
      go_upto_region 8 with fail
      go_cut [6, 7] from 17 (fun s6 s7 wc => ∃ (B : Nat) (A A' : Option Addr) (c c' : Nat) (L : List (Nod × Hd)), s6 = .pointer (some ⟨B, 0, none⟩) ∧ s7 = .int .i64 KK ∧ (v2.heap.size ≤ B ∧ B < wc.heap.size) ∧ HasBox wc B [.slice A R1.nodes.length c, .slice A' R1.opens.length c'] 52 ∧ OwnB wc v2.heap.size wc.heap.size 74 94 3 A R1.nodes.length c A' R1.opens.length c' R1 L ∧ Below v2.heap.size v2 wc)
      case first =>
        have cbA := cb.alloc cb.size (.cells #[.slice none 0 0, .slice none 0 0] 52)
        have hS : ∀ W : World, Below v2.heap.size v2 W → (W.cell? ⟨w.heap.size, 0, none⟩ = some (.slice a0 n0 c0) ∧ W.cell? ⟨w.heap.size, 1, none⟩ = some (.slice a0' n0' c0') ∧ W.cell? ⟨w.heap.size + 1, 0, none⟩ = some (.int .i64 t1.kind) ∧ W.cell? ⟨w.heap.size + 1, 1, none⟩ = some (.string t1.name) ∧ W.cell? ⟨w.heap.size + 1, 2, none⟩ = some (.slice a1 t1.attrs.length c1) ∧ W.cell? ⟨w.heap.size + 1, 3, none⟩ = some (.string t1.text)) := fun W h => ⟨(h.cell (p := ⟨w.heap.size, 0, none⟩) (by show w.heap.size < _; omega)).trans K0, (h.cell (p := ⟨w.heap.size, 1, none⟩) (by show w.heap.size < _; omega)).trans K1, (h.cell (p := ⟨w.heap.size + 1, 0, none⟩) (by show w.heap.size + 1 < _; omega)).trans K2, (h.cell (p := ⟨w.heap.size + 1, 1, none⟩) (by show w.heap.size + 1 < _; omega)).trans K3, (h.cell (p := ⟨w.heap.size + 1, 2, none⟩) (by show w.heap.size + 1 < _; omega)).trans K4, (h.cell (p := ⟨w.heap.size + 1, 3, none⟩) (by show w.heap.size + 1 < _; omega)).trans K5⟩
        go_region_held3 (fun v : World => v.cell? ⟨w.heap.size, 0, none⟩ = some (.slice a0 n0 c0) ∧ v.cell? ⟨w.heap.size, 1, none⟩ = some (.slice a0' n0' c0') ∧ v.cell? ⟨w.heap.size + 1, 0, none⟩ = some (.int .i64 t1.kind) ∧ v.cell? ⟨w.heap.size + 1, 1, none⟩ = some (.string t1.name) ∧ v.cell? ⟨w.heap.size + 1, 2, none⟩ = some (.slice a1 t1.attrs.length c1) ∧ v.cell? ⟨w.heap.size + 1, 3, none⟩ = some (.string t1.text)) ((refine hS _ ?_; first | exact (Below.refl _ v2).drew | exact ((Below.refl _ v2).alloc (Nat.le_refl _) (.cells #[.slice none 0 0, .slice none 0 0] 52)).drew | exact v6 | exact v6.alloc v6.size (.cells #[.slice none 0 0, .slice none 0 0] 52) | exact v7 | exact v7.alloc v7.size (.cells #[.slice none 0 0, .slice none 0 0] 52) | exact v8 | exact v8.alloc v8.size _ | exact (v8.setCell (p := ⟨v2.heap.size, 0, none⟩) (Nat.le_refl _) _).setCell (p := ⟨v2.heap.size, 1, none⟩) (Nat.le_refl _) _ | exact (v8.setCell (p := ⟨w6.heap.size, 0, none⟩) v6.size _).setCell (p := ⟨w6.heap.size, 1, none⟩) v6.size _ | exact (v8.setCell (p := ⟨w7.heap.size, 0, none⟩) v7.size _).setCell (p := ⟨w7.heap.size, 1, none⟩) v7.size _))
          (first
          | (go_at_call 39
             refine (toBuilder_any ⟨l0, z0⟩ _ (by first | exact (hx0.next cb).drew | exact (hx0.next cbA).drew | exact hx0.next cb | exact hx0.next cbA) (by omega) y03 (by omega)).mono ?_
             rintro e w6 ⟨A6, c6, D6, d6, L6, rfl, o6, b6⟩
             have v6 : Below v2.heap.size v2 w6 := by first | exact (Below.refl _ v2).drew.trans b6 | exact ((Below.refl _ v2).alloc (Nat.le_refl _) (.cells #[.slice none 0 0, .slice none 0 0] 52)).drew.trans (b6.mono (by simp)) | exact b6 | exact ((Below.refl _ v2).alloc (Nat.le_refl _) (.cells #[.slice none 0 0, .slice none 0 0] 52)).trans (b6.mono (by simp))
             have cb6 := cb.trans (v6.mono cb.size)
             have cb6A := cb6.alloc cb6.size (.cells #[.slice none 0 0, .slice none 0 0] 52)
             have s6 := v6.size
             have o6A := o6.below ((Below.refl _ _).alloc (Nat.le_refl _) (.cells #[.slice none 0 0, .slice none 0 0] 52))
             (first | (have kA : HasBox w6 v2.heap.size [.slice none 0 0, .slice none 0 0] 52 := (b6.block v2.heap.size (by simp)).trans (HasBox.new v2 [.slice none 0 0, .slice none 0 0] 52)) | skip))
          | (go_at_call 22
             refine (toToken_any t1 _ (by first | exact (hx1.below cb6).more cb6.size | exact (hx1.below cb6A).more cb6A.size) e2).mono ?_
             rintro e w7 ⟨A7, c7, rfl, o7, b7⟩
             have v7 : Below v2.heap.size v2 w7 := by first | exact v6.trans (b7.mono v6.size) | exact (v6.alloc v6.size (.cells #[.slice none 0 0, .slice none 0 0] 52)).trans (b7.mono (v6.alloc v6.size (.cells #[.slice none 0 0, .slice none 0 0] 52)).size)
             have s7 := b7.size
             try simp only [World.size_alloc] at s7
             (first | (have o6' := o6.below b7) | (have o6' := o6A.below b7))
             have o6'A := o6'.below ((Below.refl _ _).alloc (Nat.le_refl _) (.cells #[.slice none 0 0, .slice none 0 0] 52))
             have o7A := o7.below ((Below.refl _ _).alloc (Nat.le_refl _) (.cells #[.slice none 0 0, .slice none 0 0] 52))
             (first | (replace kA := kA.below b7 kA.lt; have lA := kA.lt) | skip)
             (first | (have kB : HasBox w7 w6.heap.size [.slice none 0 0, .slice none 0 0] 52 := (b7.block w6.heap.size (by simp)).trans (HasBox.new w6 [.slice none 0 0, .slice none 0 0] 52)) | skip))
          | (go_at_call 54
             refine (hspec _ _ _ _ _ _ _ (by first | exact o6'.rd (by omega) | exact o6'A.rd (by simp; omega)) (by first | exact (o7.reads (Nat.le_refl _)) | exact (o7A.reads (by simp)).more (by simp))).mono ?_
             rintro e w8 ⟨A8, c8, D8, d8, L8, rfl, o8, b8⟩
             have v8 : Below v2.heap.size v2 w8 := by first | exact v7.trans (b8.mono v7.size) | exact (v7.alloc v7.size (.cells #[.slice none 0 0, .slice none 0 0] 52)).trans (b8.mono (v7.alloc v7.size (.cells #[.slice none 0 0, .slice none 0 0] 52)).size)
             have s8 := b8.size
             try simp only [World.size_alloc] at s8
             try simp only [World.size_alloc] at o8
             have t7 := v7.size
             (first | (replace kA := kA.below b8 kA.lt; have kx0 := kA.cell 0 _ rfl; have kx1 := kA.cell 1 _ rfl; have kx2 := kA.open_ 0; have kx3 := kA.open_ 1) | skip)
             (first | (replace kB := kB.below b8 kB.lt; have kx0 := kB.cell 0 _ rfl; have kx1 := kB.cell 1 _ rfl; have kx2 := kB.open_ 0; have kx3 := kB.open_ 1) | skip)
             (first | (have kC := (HasBox.new w7 [.slice none 0 0, .slice none 0 0] 52).below b8 (by simp); have kx0 := kC.cell 0 _ rfl; have kx1 := kC.cell 1 _ rfl; have kx2 := kC.open_ 0; have kx3 := kC.open_ 1) | skip)))
        all_goals (go_wp2_with fail; go_meet)
        all_goals first
          | exact ⟨v2.heap.size, A8, D8, c8, d8, L8, rfl, rfl, ⟨by omega, by simp [World.setCell]; omega⟩, (kA.put (j := 0) (.slice A8 R1.nodes.length c8)).put (j := 1) (.slice D8 R1.opens.length d8), ((o8.set (p := ⟨v2.heap.size, 0, none⟩) (by show v2.heap.size < _; omega) (.slice A8 R1.nodes.length c8)).set (p := ⟨v2.heap.size, 1, none⟩) (by show v2.heap.size < _; omega) (.slice D8 R1.opens.length d8)).wide (by omega) (by simp [World.setCell]), (v8.setCell (p := ⟨v2.heap.size, 0, none⟩) (by show _ ≤ v2.heap.size; omega) (.slice A8 R1.nodes.length c8)).setCell (p := ⟨v2.heap.size, 1, none⟩) (by show _ ≤ v2.heap.size; omega) (.slice D8 R1.opens.length d8)⟩
          | exact ⟨w6.heap.size, A8, D8, c8, d8, L8, rfl, rfl, ⟨by omega, by simp [World.setCell]; omega⟩, (kB.put (j := 0) (.slice A8 R1.nodes.length c8)).put (j := 1) (.slice D8 R1.opens.length d8), ((o8.set (p := ⟨w6.heap.size, 0, none⟩) (by show w6.heap.size < _; omega) (.slice A8 R1.nodes.length c8)).set (p := ⟨w6.heap.size, 1, none⟩) (by show w6.heap.size < _; omega) (.slice D8 R1.opens.length d8)).wide (by omega) (by simp [World.setCell]), (v8.setCell (p := ⟨w6.heap.size, 0, none⟩) (by show _ ≤ w6.heap.size; omega) (.slice A8 R1.nodes.length c8)).setCell (p := ⟨w6.heap.size, 1, none⟩) (by show _ ≤ w6.heap.size; omega) (.slice D8 R1.opens.length d8)⟩
          | exact ⟨w7.heap.size, A8, D8, c8, d8, L8, rfl, rfl, ⟨by omega, by simp [World.setCell]; omega⟩, (kC.put (j := 0) (.slice A8 R1.nodes.length c8)).put (j := 1) (.slice D8 R1.opens.length d8), ((o8.set (p := ⟨w7.heap.size, 0, none⟩) (by show w7.heap.size < _; omega) (.slice A8 R1.nodes.length c8)).set (p := ⟨w7.heap.size, 1, none⟩) (by show w7.heap.size < _; omega) (.slice D8 R1.opens.length d8)).wide (by omega) (by simp [World.setCell]), (v8.setCell (p := ⟨w7.heap.size, 0, none⟩) (by show _ ≤ w7.heap.size; omega) (.slice A8 R1.nodes.length c8)).setCell (p := ⟨w7.heap.size, 1, none⟩) (by show _ ≤ w7.heap.size; omega) (.slice D8 R1.opens.length d8)⟩
          | exact ⟨w8.heap.size, A8, D8, c8, d8, L8, rfl, rfl, ⟨by omega, by simp⟩, HasBox.new w8 [.slice A8 R1.nodes.length c8, .slice D8 R1.opens.length d8] 52, (o8.below ((Below.refl _ _).alloc (Nat.le_refl _) _)).wide (by omega) (by simp), v8.alloc v8.size _⟩
      case rest =>
      clear V9
      obtain ⟨Bow, Aow, Dow, Cow, Eow, Low, rfl, rfl, ⟨mowa, mowb⟩, bxow, ow, bb⟩ := hcut
      obtain ⟨v3, rfl⟩ : ∃ x : World, x = wc := ⟨wc, rfl⟩
      have zz := bb.size
      try simp only [World.size_drew, World.size_alloc] at zz
      replace K0 : v3.cell? ⟨w.heap.size, 0, none⟩ = some (.slice a0 n0 c0) := ((bcell bb).1 _ _ (by first | omega | (simp; done) | (simp; omega))).trans (by first | exact K0 | (simp only [World.cell?_drew]; exact K0) | (simp [go_sem]; done))
      replace K1 : v3.cell? ⟨w.heap.size, 1, none⟩ = some (.slice a0' n0' c0') := ((bcell bb).1 _ _ (by first | omega | (simp; done) | (simp; omega))).trans (by first | exact K1 | (simp only [World.cell?_drew]; exact K1) | (simp [go_sem]; done))
      replace K2 : v3.cell? ⟨w.heap.size + 1, 0, none⟩ = some (.int .i64 t1.kind) := ((bcell bb).1 _ _ (by first | omega | (simp; done) | (simp; omega))).trans (by first | exact K2 | (simp only [World.cell?_drew]; exact K2) | (simp [go_sem]; done))
      replace K3 : v3.cell? ⟨w.heap.size + 1, 1, none⟩ = some (.string t1.name) := ((bcell bb).1 _ _ (by first | omega | (simp; done) | (simp; omega))).trans (by first | exact K3 | (simp only [World.cell?_drew]; exact K3) | (simp [go_sem]; done))
      replace K4 : v3.cell? ⟨w.heap.size + 1, 2, none⟩ = some (.slice a1 t1.attrs.length c1) := ((bcell bb).1 _ _ (by first | omega | (simp; done) | (simp; omega))).trans (by first | exact K4 | (simp only [World.cell?_drew]; exact K4) | (simp [go_sem]; done))
      replace K5 : v3.cell? ⟨w.heap.size + 1, 3, none⟩ = some (.string t1.text) := ((bcell bb).1 _ _ (by first | omega | (simp; done) | (simp; omega))).trans (by first | exact K5 | (simp only [World.cell?_drew]; exact K5) | (simp [go_sem]; done))
      replace cb : Below w.heap.size w v3 := by first | exact cb.trans (bb.mono cb.size) | exact cb.drew.trans (bb.mono cb.drew.size)
      clear bb
      have K6 : v3.cell? ⟨Bow, 0, none⟩ = some (.slice Aow R1.nodes.length Cow) := bxow.cell 0 _ rfl
      have K7 : v3.cell? ⟨Bow, 1, none⟩ = some (.slice Dow R1.opens.length Eow) := bxow.cell 1 _ rfl
      clear bxow
      go_wp2_with fail
      refine (toBuilder_any ⟨l0, z0⟩ _ (hx0.next cb) (by omega) y03 (by omega)).mono ?_
      rintro e v4 ⟨Ax0, Cx0, Dx0, Ex0, Lx0, rfl, x0, bb⟩
      have zz := bb.size
      try simp only [World.size_drew, World.size_alloc] at zz
      replace ow := ow.below bb
      replace K0 : v4.cell? ⟨w.heap.size, 0, none⟩ = some (.slice a0 n0 c0) := ((bcell bb).1 _ _ (by first | omega | (simp; done) | (simp; omega))).trans (by first | exact K0 | (simp only [World.cell?_drew]; exact K0) | (simp [go_sem]; done))
      replace K1 : v4.cell? ⟨w.heap.size, 1, none⟩ = some (.slice a0' n0' c0') := ((bcell bb).1 _ _ (by first | omega | (simp; done) | (simp; omega))).trans (by first | exact K1 | (simp only [World.cell?_drew]; exact K1) | (simp [go_sem]; done))
      replace K2 : v4.cell? ⟨w.heap.size + 1, 0, none⟩ = some (.int .i64 t1.kind) := ((bcell bb).1 _ _ (by first | omega | (simp; done) | (simp; omega))).trans (by first | exact K2 | (simp only [World.cell?_drew]; exact K2) | (simp [go_sem]; done))
      replace K3 : v4.cell? ⟨w.heap.size + 1, 1, none⟩ = some (.string t1.name) := ((bcell bb).1 _ _ (by first | omega | (simp; done) | (simp; omega))).trans (by first | exact K3 | (simp only [World.cell?_drew]; exact K3) | (simp [go_sem]; done))
      replace K4 : v4.cell? ⟨w.heap.size + 1, 2, none⟩ = some (.slice a1 t1.attrs.length c1) := ((bcell bb).1 _ _ (by first | omega | (simp; done) | (simp; omega))).trans (by first | exact K4 | (simp only [World.cell?_drew]; exact K4) | (simp [go_sem]; done))
      replace K5 : v4.cell? ⟨w.heap.size + 1, 3, none⟩ = some (.string t1.text) := ((bcell bb).1 _ _ (by first | omega | (simp; done) | (simp; omega))).trans (by first | exact K5 | (simp only [World.cell?_drew]; exact K5) | (simp [go_sem]; done))
      replace K6 : v4.cell? ⟨Bow, 0, none⟩ = some (.slice Aow R1.nodes.length Cow) := ((bcell bb).1 _ _ (by first | omega | (simp; done) | (simp; omega))).trans (by first | exact K6 | (simp only [World.cell?_drew]; exact K6) | (simp [go_sem]; done))
      replace K7 : v4.cell? ⟨Bow, 1, none⟩ = some (.slice Dow R1.opens.length Eow) := ((bcell bb).1 _ _ (by first | omega | (simp; done) | (simp; omega))).trans (by first | exact K7 | (simp only [World.cell?_drew]; exact K7) | (simp [go_sem]; done))
      replace cb : Below w.heap.size w v4 := by first | exact cb.trans (bb.mono cb.size) | exact cb.drew.trans (bb.mono cb.drew.size)
      clear bb
      replace K0 : (v4.alloc (.cells #[.slice Ax0 n0 Cx0, .slice Dx0 n0' Ex0] 52)).cell? ⟨w.heap.size, 0, none⟩ = some (.slice a0 n0 c0) := (World.cell?_alloc_some _ _ _ (by rw [K0]; rfl)).trans K0
      replace K1 : (v4.alloc (.cells #[.slice Ax0 n0 Cx0, .slice Dx0 n0' Ex0] 52)).cell? ⟨w.heap.size, 1, none⟩ = some (.slice a0' n0' c0') := (World.cell?_alloc_some _ _ _ (by rw [K1]; rfl)).trans K1
      replace K2 : (v4.alloc (.cells #[.slice Ax0 n0 Cx0, .slice Dx0 n0' Ex0] 52)).cell? ⟨w.heap.size + 1, 0, none⟩ = some (.int .i64 t1.kind) := (World.cell?_alloc_some _ _ _ (by rw [K2]; rfl)).trans K2
      replace K3 : (v4.alloc (.cells #[.slice Ax0 n0 Cx0, .slice Dx0 n0' Ex0] 52)).cell? ⟨w.heap.size + 1, 1, none⟩ = some (.string t1.name) := (World.cell?_alloc_some _ _ _ (by rw [K3]; rfl)).trans K3
      replace K4 : (v4.alloc (.cells #[.slice Ax0 n0 Cx0, .slice Dx0 n0' Ex0] 52)).cell? ⟨w.heap.size + 1, 2, none⟩ = some (.slice a1 t1.attrs.length c1) := (World.cell?_alloc_some _ _ _ (by rw [K4]; rfl)).trans K4
      replace K5 : (v4.alloc (.cells #[.slice Ax0 n0 Cx0, .slice Dx0 n0' Ex0] 52)).cell? ⟨w.heap.size + 1, 3, none⟩ = some (.string t1.text) := (World.cell?_alloc_some _ _ _ (by rw [K5]; rfl)).trans K5
      replace K6 : (v4.alloc (.cells #[.slice Ax0 n0 Cx0, .slice Dx0 n0' Ex0] 52)).cell? ⟨Bow, 0, none⟩ = some (.slice Aow R1.nodes.length Cow) := (World.cell?_alloc_some _ _ _ (by rw [K6]; rfl)).trans K6
      replace K7 : (v4.alloc (.cells #[.slice Ax0 n0 Cx0, .slice Dx0 n0' Ex0] 52)).cell? ⟨Bow, 1, none⟩ = some (.slice Dow R1.opens.length Eow) := (World.cell?_alloc_some _ _ _ (by rw [K7]; rfl)).trans K7
      have K8 : (v4.alloc (.cells #[.slice Ax0 n0 Cx0, .slice Dx0 n0' Ex0] 52)).cell? ⟨v4.heap.size, 0, none⟩ = some (.slice Ax0 n0 Cx0) := by simp [go_sem]
      have K9 : (v4.alloc (.cells #[.slice Ax0 n0 Cx0, .slice Dx0 n0' Ex0] 52)).cell? ⟨v4.heap.size, 1, none⟩ = some (.slice Dx0 n0' Ex0) := by simp [go_sem]
      replace ow := ow.below ((Below.refl _ _).alloc (Nat.le_refl _) (.cells #[.slice Ax0 n0 Cx0, .slice Dx0 n0' Ex0] 52))
      replace x0 := x0.below ((Below.refl _ _).alloc (Nat.le_refl _) (.cells #[.slice Ax0 n0 Cx0, .slice Dx0 n0' Ex0] 52))
      replace cb : Below w.heap.size w (v4.alloc (.cells #[.slice Ax0 n0 Cx0, .slice Dx0 n0' Ex0] 52)) := cb.alloc cb.size (.cells #[.slice Ax0 n0 Cx0, .slice Dx0 n0' Ex0] 52)
      have zz : v4.heap.size < (v4.alloc (.cells #[.slice Ax0 n0 Cx0, .slice Dx0 n0' Ex0] 52)).heap.size := by simp
      go_wp2_with fail
      refine (toToken_any t1 _ ((hx1.below cb).more cb.size) e2).mono ?_
      rintro e v5 ⟨Ax1, Cx1, rfl, x1, bb⟩
      have zz := bb.size
      try simp only [World.size_drew, World.size_alloc] at zz
      replace ow := ow.below bb
      replace x0 := x0.below bb
      replace K0 : v5.cell? ⟨w.heap.size, 0, none⟩ = some (.slice a0 n0 c0) := ((bcell bb).1 _ _ (by first | omega | (simp; done) | (simp; omega))).trans (by first | exact K0 | (simp only [World.cell?_drew]; exact K0) | (simp [go_sem]; done))
      replace K1 : v5.cell? ⟨w.heap.size, 1, none⟩ = some (.slice a0' n0' c0') := ((bcell bb).1 _ _ (by first | omega | (simp; done) | (simp; omega))).trans (by first | exact K1 | (simp only [World.cell?_drew]; exact K1) | (simp [go_sem]; done))
      replace K2 : v5.cell? ⟨w.heap.size + 1, 0, none⟩ = some (.int .i64 t1.kind) := ((bcell bb).1 _ _ (by first | omega | (simp; done) | (simp; omega))).trans (by first | exact K2 | (simp only [World.cell?_drew]; exact K2) | (simp [go_sem]; done))
      replace K3 : v5.cell? ⟨w.heap.size + 1, 1, none⟩ = some (.string t1.name) := ((bcell bb).1 _ _ (by first | omega | (simp; done) | (simp; omega))).trans (by first | exact K3 | (simp only [World.cell?_drew]; exact K3) | (simp [go_sem]; done))
      replace K4 : v5.cell? ⟨w.heap.size + 1, 2, none⟩ = some (.slice a1 t1.attrs.length c1) := ((bcell bb).1 _ _ (by first | omega | (simp; done) | (simp; omega))).trans (by first | exact K4 | (simp only [World.cell?_drew]; exact K4) | (simp [go_sem]; done))
      replace K5 : v5.cell? ⟨w.heap.size + 1, 3, none⟩ = some (.string t1.text) := ((bcell bb).1 _ _ (by first | omega | (simp; done) | (simp; omega))).trans (by first | exact K5 | (simp only [World.cell?_drew]; exact K5) | (simp [go_sem]; done))
      replace K6 : v5.cell? ⟨Bow, 0, none⟩ = some (.slice Aow R1.nodes.length Cow) := ((bcell bb).1 _ _ (by first | omega | (simp; done) | (simp; omega))).trans (by first | exact K6 | (simp only [World.cell?_drew]; exact K6) | (simp [go_sem]; done))
      replace K7 : v5.cell? ⟨Bow, 1, none⟩ = some (.slice Dow R1.opens.length Eow) := ((bcell bb).1 _ _ (by first | omega | (simp; done) | (simp; omega))).trans (by first | exact K7 | (simp only [World.cell?_drew]; exact K7) | (simp [go_sem]; done))
      replace K8 : v5.cell? ⟨v4.heap.size, 0, none⟩ = some (.slice Ax0 n0 Cx0) := ((bcell bb).1 _ _ (by first | omega | (simp; done) | (simp; omega))).trans (by first | exact K8 | (simp only [World.cell?_drew]; exact K8) | (simp [go_sem]; done))
      replace K9 : v5.cell? ⟨v4.heap.size, 1, none⟩ = some (.slice Dx0 n0' Ex0) := ((bcell bb).1 _ _ (by first | omega | (simp; done) | (simp; omega))).trans (by first | exact K9 | (simp only [World.cell?_drew]; exact K9) | (simp [go_sem]; done))
      replace cb : Below w.heap.size w v5 := by first | exact cb.trans (bb.mono cb.size) | exact cb.drew.trans (bb.mono cb.drew.size)
      clear bb
      replace K0 : (v5.alloc (.cells #[.int .i64 t1.kind, .string t1.name, .slice Ax1 t1.attrs.length Cx1, .string t1.text] 35)).cell? ⟨w.heap.size, 0, none⟩ = some (.slice a0 n0 c0) := (World.cell?_alloc_some _ _ _ (by rw [K0]; rfl)).trans K0
      replace K1 : (v5.alloc (.cells #[.int .i64 t1.kind, .string t1.name, .slice Ax1 t1.attrs.length Cx1, .string t1.text] 35)).cell? ⟨w.heap.size, 1, none⟩ = some (.slice a0' n0' c0') := (World.cell?_alloc_some _ _ _ (by rw [K1]; rfl)).trans K1
      replace K2 : (v5.alloc (.cells #[.int .i64 t1.kind, .string t1.name, .slice Ax1 t1.attrs.length Cx1, .string t1.text] 35)).cell? ⟨w.heap.size + 1, 0, none⟩ = some (.int .i64 t1.kind) := (World.cell?_alloc_some _ _ _ (by rw [K2]; rfl)).trans K2
      replace K3 : (v5.alloc (.cells #[.int .i64 t1.kind, .string t1.name, .slice Ax1 t1.attrs.length Cx1, .string t1.text] 35)).cell? ⟨w.heap.size + 1, 1, none⟩ = some (.string t1.name) := (World.cell?_alloc_some _ _ _ (by rw [K3]; rfl)).trans K3
      replace K4 : (v5.alloc (.cells #[.int .i64 t1.kind, .string t1.name, .slice Ax1 t1.attrs.length Cx1, .string t1.text] 35)).cell? ⟨w.heap.size + 1, 2, none⟩ = some (.slice a1 t1.attrs.length c1) := (World.cell?_alloc_some _ _ _ (by rw [K4]; rfl)).trans K4
      replace K5 : (v5.alloc (.cells #[.int .i64 t1.kind, .string t1.name, .slice Ax1 t1.attrs.length Cx1, .string t1.text] 35)).cell? ⟨w.heap.size + 1, 3, none⟩ = some (.string t1.text) := (World.cell?_alloc_some _ _ _ (by rw [K5]; rfl)).trans K5
      replace K6 : (v5.alloc (.cells #[.int .i64 t1.kind, .string t1.name, .slice Ax1 t1.attrs.length Cx1, .string t1.text] 35)).cell? ⟨Bow, 0, none⟩ = some (.slice Aow R1.nodes.length Cow) := (World.cell?_alloc_some _ _ _ (by rw [K6]; rfl)).trans K6
      replace K7 : (v5.alloc (.cells #[.int .i64 t1.kind, .string t1.name, .slice Ax1 t1.attrs.length Cx1, .string t1.text] 35)).cell? ⟨Bow, 1, none⟩ = some (.slice Dow R1.opens.length Eow) := (World.cell?_alloc_some _ _ _ (by rw [K7]; rfl)).trans K7
      replace K8 : (v5.alloc (.cells #[.int .i64 t1.kind, .string t1.name, .slice Ax1 t1.attrs.length Cx1, .string t1.text] 35)).cell? ⟨v4.heap.size, 0, none⟩ = some (.slice Ax0 n0 Cx0) := (World.cell?_alloc_some _ _ _ (by rw [K8]; rfl)).trans K8
      replace K9 : (v5.alloc (.cells #[.int .i64 t1.kind, .string t1.name, .slice Ax1 t1.attrs.length Cx1, .string t1.text] 35)).cell? ⟨v4.heap.size, 1, none⟩ = some (.slice Dx0 n0' Ex0) := (World.cell?_alloc_some _ _ _ (by rw [K9]; rfl)).trans K9
      have K10 : (v5.alloc (.cells #[.int .i64 t1.kind, .string t1.name, .slice Ax1 t1.attrs.length Cx1, .string t1.text] 35)).cell? ⟨v5.heap.size, 0, none⟩ = some (.int .i64 t1.kind) := by simp [go_sem]
      have K11 : (v5.alloc (.cells #[.int .i64 t1.kind, .string t1.name, .slice Ax1 t1.attrs.length Cx1, .string t1.text] 35)).cell? ⟨v5.heap.size, 1, none⟩ = some (.string t1.name) := by simp [go_sem]
      have K12 : (v5.alloc (.cells #[.int .i64 t1.kind, .string t1.name, .slice Ax1 t1.attrs.length Cx1, .string t1.text] 35)).cell? ⟨v5.heap.size, 2, none⟩ = some (.slice Ax1 t1.attrs.length Cx1) := by simp [go_sem]
      have K13 : (v5.alloc (.cells #[.int .i64 t1.kind, .string t1.name, .slice Ax1 t1.attrs.length Cx1, .string t1.text] 35)).cell? ⟨v5.heap.size, 3, none⟩ = some (.string t1.text) := by simp [go_sem]
      replace ow := ow.below ((Below.refl _ _).alloc (Nat.le_refl _) (.cells #[.int .i64 t1.kind, .string t1.name, .slice Ax1 t1.attrs.length Cx1, .string t1.text] 35))
      replace x0 := x0.below ((Below.refl _ _).alloc (Nat.le_refl _) (.cells #[.int .i64 t1.kind, .string t1.name, .slice Ax1 t1.attrs.length Cx1, .string t1.text] 35))
      replace x1 := x1.below ((Below.refl _ _).alloc (Nat.le_refl _) (.cells #[.int .i64 t1.kind, .string t1.name, .slice Ax1 t1.attrs.length Cx1, .string t1.text] 35))
      replace cb : Below w.heap.size w (v5.alloc (.cells #[.int .i64 t1.kind, .string t1.name, .slice Ax1 t1.attrs.length Cx1, .string t1.text] 35)) := cb.alloc cb.size (.cells #[.int .i64 t1.kind, .string t1.name, .slice Ax1 t1.attrs.length Cx1, .string t1.text] 35)
      have zz : v5.heap.size < (v5.alloc (.cells #[.int .i64 t1.kind, .string t1.name, .slice Ax1 t1.attrs.length Cx1, .string t1.text] 35)).heap.size := by simp
      go_wp2_with fail
      refine (himpl _ _ _ _ _ _ _ (OwnB.rd x0 (by omega)) ((x1.reads (by omega)).more (by omega))).mono ?_
      rintro e v6 ⟨Aog, Cog, Dog, Eog, Log, rfl, og, bb⟩
      have zz := bb.size
      try simp only [World.size_drew, World.size_alloc] at zz
      replace ow := ow.below bb
      replace x0 := x0.below bb
      replace x1 := x1.below bb
      replace K0 : v6.cell? ⟨w.heap.size, 0, none⟩ = some (.slice a0 n0 c0) := ((bcell bb).1 _ _ (by first | omega | (simp; done) | (simp; omega))).trans (by first | exact K0 | (simp only [World.cell?_drew]; exact K0) | (simp [go_sem]; done))
      replace K1 : v6.cell? ⟨w.heap.size, 1, none⟩ = some (.slice a0' n0' c0') := ((bcell bb).1 _ _ (by first | omega | (simp; done) | (simp; omega))).trans (by first | exact K1 | (simp only [World.cell?_drew]; exact K1) | (simp [go_sem]; done))
      replace K2 : v6.cell? ⟨w.heap.size + 1, 0, none⟩ = some (.int .i64 t1.kind) := ((bcell bb).1 _ _ (by first | omega | (simp; done) | (simp; omega))).trans (by first | exact K2 | (simp only [World.cell?_drew]; exact K2) | (simp [go_sem]; done))
      replace K3 : v6.cell? ⟨w.heap.size + 1, 1, none⟩ = some (.string t1.name) := ((bcell bb).1 _ _ (by first | omega | (simp; done) | (simp; omega))).trans (by first | exact K3 | (simp only [World.cell?_drew]; exact K3) | (simp [go_sem]; done))
      replace K4 : v6.cell? ⟨w.heap.size + 1, 2, none⟩ = some (.slice a1 t1.attrs.length c1) := ((bcell bb).1 _ _ (by first | omega | (simp; done) | (simp; omega))).trans (by first | exact K4 | (simp only [World.cell?_drew]; exact K4) | (simp [go_sem]; done))
      replace K5 : v6.cell? ⟨w.heap.size + 1, 3, none⟩ = some (.string t1.text) := ((bcell bb).1 _ _ (by first | omega | (simp; done) | (simp; omega))).trans (by first | exact K5 | (simp only [World.cell?_drew]; exact K5) | (simp [go_sem]; done))
      replace K6 : v6.cell? ⟨Bow, 0, none⟩ = some (.slice Aow R1.nodes.length Cow) := ((bcell bb).1 _ _ (by first | omega | (simp; done) | (simp; omega))).trans (by first | exact K6 | (simp only [World.cell?_drew]; exact K6) | (simp [go_sem]; done))
      replace K7 : v6.cell? ⟨Bow, 1, none⟩ = some (.slice Dow R1.opens.length Eow) := ((bcell bb).1 _ _ (by first | omega | (simp; done) | (simp; omega))).trans (by first | exact K7 | (simp only [World.cell?_drew]; exact K7) | (simp [go_sem]; done))
      replace K8 : v6.cell? ⟨v4.heap.size, 0, none⟩ = some (.slice Ax0 n0 Cx0) := ((bcell bb).1 _ _ (by first | omega | (simp; done) | (simp; omega))).trans (by first | exact K8 | (simp only [World.cell?_drew]; exact K8) | (simp [go_sem]; done))
      replace K9 : v6.cell? ⟨v4.heap.size, 1, none⟩ = some (.slice Dx0 n0' Ex0) := ((bcell bb).1 _ _ (by first | omega | (simp; done) | (simp; omega))).trans (by first | exact K9 | (simp only [World.cell?_drew]; exact K9) | (simp [go_sem]; done))
      replace K10 : v6.cell? ⟨v5.heap.size, 0, none⟩ = some (.int .i64 t1.kind) := ((bcell bb).1 _ _ (by first | omega | (simp; done) | (simp; omega))).trans (by first | exact K10 | (simp only [World.cell?_drew]; exact K10) | (simp [go_sem]; done))
      replace K11 : v6.cell? ⟨v5.heap.size, 1, none⟩ = some (.string t1.name) := ((bcell bb).1 _ _ (by first | omega | (simp; done) | (simp; omega))).trans (by first | exact K11 | (simp only [World.cell?_drew]; exact K11) | (simp [go_sem]; done))
      replace K12 : v6.cell? ⟨v5.heap.size, 2, none⟩ = some (.slice Ax1 t1.attrs.length Cx1) := ((bcell bb).1 _ _ (by first | omega | (simp; done) | (simp; omega))).trans (by first | exact K12 | (simp only [World.cell?_drew]; exact K12) | (simp [go_sem]; done))
      replace K13 : v6.cell? ⟨v5.heap.size, 3, none⟩ = some (.string t1.text) := ((bcell bb).1 _ _ (by first | omega | (simp; done) | (simp; omega))).trans (by first | exact K13 | (simp only [World.cell?_drew]; exact K13) | (simp [go_sem]; done))
      replace cb : Below w.heap.size w v6 := by first | exact cb.trans (bb.mono cb.size) | exact cb.drew.trans (bb.mono cb.drew.size)
      clear bb
      replace K0 : (v6.alloc (.cells #[.slice Aog R1.nodes.length Cog, .slice Dog R1.opens.length Eog] 52)).cell? ⟨w.heap.size, 0, none⟩ = some (.slice a0 n0 c0) := (World.cell?_alloc_some _ _ _ (by rw [K0]; rfl)).trans K0
      replace K1 : (v6.alloc (.cells #[.slice Aog R1.nodes.length Cog, .slice Dog R1.opens.length Eog] 52)).cell? ⟨w.heap.size, 1, none⟩ = some (.slice a0' n0' c0') := (World.cell?_alloc_some _ _ _ (by rw [K1]; rfl)).trans K1
      replace K2 : (v6.alloc (.cells #[.slice Aog R1.nodes.length Cog, .slice Dog R1.opens.length Eog] 52)).cell? ⟨w.heap.size + 1, 0, none⟩ = some (.int .i64 t1.kind) := (World.cell?_alloc_some _ _ _ (by rw [K2]; rfl)).trans K2
      replace K3 : (v6.alloc (.cells #[.slice Aog R1.nodes.length Cog, .slice Dog R1.opens.length Eog] 52)).cell? ⟨w.heap.size + 1, 1, none⟩ = some (.string t1.name) := (World.cell?_alloc_some _ _ _ (by rw [K3]; rfl)).trans K3
      replace K4 : (v6.alloc (.cells #[.slice Aog R1.nodes.length Cog, .slice Dog R1.opens.length Eog] 52)).cell? ⟨w.heap.size + 1, 2, none⟩ = some (.slice a1 t1.attrs.length c1) := (World.cell?_alloc_some _ _ _ (by rw [K4]; rfl)).trans K4
      replace K5 : (v6.alloc (.cells #[.slice Aog R1.nodes.length Cog, .slice Dog R1.opens.length Eog] 52)).cell? ⟨w.heap.size + 1, 3, none⟩ = some (.string t1.text) := (World.cell?_alloc_some _ _ _ (by rw [K5]; rfl)).trans K5
      replace K6 : (v6.alloc (.cells #[.slice Aog R1.nodes.length Cog, .slice Dog R1.opens.length Eog] 52)).cell? ⟨Bow, 0, none⟩ = some (.slice Aow R1.nodes.length Cow) := (World.cell?_alloc_some _ _ _ (by rw [K6]; rfl)).trans K6
      replace K7 : (v6.alloc (.cells #[.slice Aog R1.nodes.length Cog, .slice Dog R1.opens.length Eog] 52)).cell? ⟨Bow, 1, none⟩ = some (.slice Dow R1.opens.length Eow) := (World.cell?_alloc_some _ _ _ (by rw [K7]; rfl)).trans K7
      replace K8 : (v6.alloc (.cells #[.slice Aog R1.nodes.length Cog, .slice Dog R1.opens.length Eog] 52)).cell? ⟨v4.heap.size, 0, none⟩ = some (.slice Ax0 n0 Cx0) := (World.cell?_alloc_some _ _ _ (by rw [K8]; rfl)).trans K8
      replace K9 : (v6.alloc (.cells #[.slice Aog R1.nodes.length Cog, .slice Dog R1.opens.length Eog] 52)).cell? ⟨v4.heap.size, 1, none⟩ = some (.slice Dx0 n0' Ex0) := (World.cell?_alloc_some _ _ _ (by rw [K9]; rfl)).trans K9
      replace K10 : (v6.alloc (.cells #[.slice Aog R1.nodes.length Cog, .slice Dog R1.opens.length Eog] 52)).cell? ⟨v5.heap.size, 0, none⟩ = some (.int .i64 t1.kind) := (World.cell?_alloc_some _ _ _ (by rw [K10]; rfl)).trans K10
      replace K11 : (v6.alloc (.cells #[.slice Aog R1.nodes.length Cog, .slice Dog R1.opens.length Eog] 52)).cell? ⟨v5.heap.size, 1, none⟩ = some (.string t1.name) := (World.cell?_alloc_some _ _ _ (by rw [K11]; rfl)).trans K11
      replace K12 : (v6.alloc (.cells #[.slice Aog R1.nodes.length Cog, .slice Dog R1.opens.length Eog] 52)).cell? ⟨v5.heap.size, 2, none⟩ = some (.slice Ax1 t1.attrs.length Cx1) := (World.cell?_alloc_some _ _ _ (by rw [K12]; rfl)).trans K12
      replace K13 : (v6.alloc (.cells #[.slice Aog R1.nodes.length Cog, .slice Dog R1.opens.length Eog] 52)).cell? ⟨v5.heap.size, 3, none⟩ = some (.string t1.text) := (World.cell?_alloc_some _ _ _ (by rw [K13]; rfl)).trans K13
      have K14 : (v6.alloc (.cells #[.slice Aog R1.nodes.length Cog, .slice Dog R1.opens.length Eog] 52)).cell? ⟨v6.heap.size, 0, none⟩ = some (.slice Aog R1.nodes.length Cog) := by simp [go_sem]
      have K15 : (v6.alloc (.cells #[.slice Aog R1.nodes.length Cog, .slice Dog R1.opens.length Eog] 52)).cell? ⟨v6.heap.size, 1, none⟩ = some (.slice Dog R1.opens.length Eog) := by simp [go_sem]
      replace ow := ow.below ((Below.refl _ _).alloc (Nat.le_refl _) (.cells #[.slice Aog R1.nodes.length Cog, .slice Dog R1.opens.length Eog] 52))
      replace x0 := x0.below ((Below.refl _ _).alloc (Nat.le_refl _) (.cells #[.slice Aog R1.nodes.length Cog, .slice Dog R1.opens.length Eog] 52))
      replace x1 := x1.below ((Below.refl _ _).alloc (Nat.le_refl _) (.cells #[.slice Aog R1.nodes.length Cog, .slice Dog R1.opens.length Eog] 52))
      replace og := og.below ((Below.refl _ _).alloc (Nat.le_refl _) (.cells #[.slice Aog R1.nodes.length Cog, .slice Dog R1.opens.length Eog] 52))
      replace cb : Below w.heap.size w (v6.alloc (.cells #[.slice Aog R1.nodes.length Cog, .slice Dog R1.opens.length Eog] 52)) := cb.alloc cb.size (.cells #[.slice Aog R1.nodes.length Cog, .slice Dog R1.opens.length Eog] 52)
      have zz : v6.heap.size < (v6.alloc (.cells #[.slice Aog R1.nodes.length Cog, .slice Dog R1.opens.length Eog] 52)).heap.size := by simp
      have hkk : (KK != KK) = false := by simp
      go_wp2_with fail
      refine (eqBuilder_yes R1 _ (OwnB.rd og (by omega)) (OwnB.rd ow (by omega)) (by omega) hr3 (by omega)).mono ?_
      rintro e v7 ⟨rfl, bb⟩
      have zz := bb.size
      try simp only [World.size_drew, World.size_alloc] at zz
      replace ow := ow.below bb
      replace x0 := x0.below bb
      replace x1 := x1.below bb
      replace og := og.below bb
      replace K0 : v7.cell? ⟨w.heap.size, 0, none⟩ = some (.slice a0 n0 c0) := ((bcell bb).1 _ _ (by first | omega | (simp; done) | (simp; omega))).trans (by first | exact K0 | (simp only [World.cell?_drew]; exact K0) | (simp [go_sem]; done))
      replace K1 : v7.cell? ⟨w.heap.size, 1, none⟩ = some (.slice a0' n0' c0') := ((bcell bb).1 _ _ (by first | omega | (simp; done) | (simp; omega))).trans (by first | exact K1 | (simp only [World.cell?_drew]; exact K1) | (simp [go_sem]; done))
      replace K2 : v7.cell? ⟨w.heap.size + 1, 0, none⟩ = some (.int .i64 t1.kind) := ((bcell bb).1 _ _ (by first | omega | (simp; done) | (simp; omega))).trans (by first | exact K2 | (simp only [World.cell?_drew]; exact K2) | (simp [go_sem]; done))
      replace K3 : v7.cell? ⟨w.heap.size + 1, 1, none⟩ = some (.string t1.name) := ((bcell bb).1 _ _ (by first | omega | (simp; done) | (simp; omega))).trans (by first | exact K3 | (simp only [World.cell?_drew]; exact K3) | (simp [go_sem]; done))
      replace K4 : v7.cell? ⟨w.heap.size + 1, 2, none⟩ = some (.slice a1 t1.attrs.length c1) := ((bcell bb).1 _ _ (by first | omega | (simp; done) | (simp; omega))).trans (by first | exact K4 | (simp only [World.cell?_drew]; exact K4) | (simp [go_sem]; done))
      replace K5 : v7.cell? ⟨w.heap.size + 1, 3, none⟩ = some (.string t1.text) := ((bcell bb).1 _ _ (by first | omega | (simp; done) | (simp; omega))).trans (by first | exact K5 | (simp only [World.cell?_drew]; exact K5) | (simp [go_sem]; done))
      replace K6 : v7.cell? ⟨Bow, 0, none⟩ = some (.slice Aow R1.nodes.length Cow) := ((bcell bb).1 _ _ (by first | omega | (simp; done) | (simp; omega))).trans (by first | exact K6 | (simp only [World.cell?_drew]; exact K6) | (simp [go_sem]; done))
      replace K7 : v7.cell? ⟨Bow, 1, none⟩ = some (.slice Dow R1.opens.length Eow) := ((bcell bb).1 _ _ (by first | omega | (simp; done) | (simp; omega))).trans (by first | exact K7 | (simp only [World.cell?_drew]; exact K7) | (simp [go_sem]; done))
      replace K8 : v7.cell? ⟨v4.heap.size, 0, none⟩ = some (.slice Ax0 n0 Cx0) := ((bcell bb).1 _ _ (by first | omega | (simp; done) | (simp; omega))).trans (by first | exact K8 | (simp only [World.cell?_drew]; exact K8) | (simp [go_sem]; done))
      replace K9 : v7.cell? ⟨v4.heap.size, 1, none⟩ = some (.slice Dx0 n0' Ex0) := ((bcell bb).1 _ _ (by first | omega | (simp; done) | (simp; omega))).trans (by first | exact K9 | (simp only [World.cell?_drew]; exact K9) | (simp [go_sem]; done))
      replace K10 : v7.cell? ⟨v5.heap.size, 0, none⟩ = some (.int .i64 t1.kind) := ((bcell bb).1 _ _ (by first | omega | (simp; done) | (simp; omega))).trans (by first | exact K10 | (simp only [World.cell?_drew]; exact K10) | (simp [go_sem]; done))
      replace K11 : v7.cell? ⟨v5.heap.size, 1, none⟩ = some (.string t1.name) := ((bcell bb).1 _ _ (by first | omega | (simp; done) | (simp; omega))).trans (by first | exact K11 | (simp only [World.cell?_drew]; exact K11) | (simp [go_sem]; done))
      replace K12 : v7.cell? ⟨v5.heap.size, 2, none⟩ = some (.slice Ax1 t1.attrs.length Cx1) := ((bcell bb).1 _ _ (by first | omega | (simp; done) | (simp; omega))).trans (by first | exact K12 | (simp only [World.cell?_drew]; exact K12) | (simp [go_sem]; done))
      replace K13 : v7.cell? ⟨v5.heap.size, 3, none⟩ = some (.string t1.text) := ((bcell bb).1 _ _ (by first | omega | (simp; done) | (simp; omega))).trans (by first | exact K13 | (simp only [World.cell?_drew]; exact K13) | (simp [go_sem]; done))
      replace K14 : v7.cell? ⟨v6.heap.size, 0, none⟩ = some (.slice Aog R1.nodes.length Cog) := ((bcell bb).1 _ _ (by first | omega | (simp; done) | (simp; omega))).trans (by first | exact K14 | (simp only [World.cell?_drew]; exact K14) | (simp [go_sem]; done))
      replace K15 : v7.cell? ⟨v6.heap.size, 1, none⟩ = some (.slice Dog R1.opens.length Eog) := ((bcell bb).1 _ _ (by first | omega | (simp; done) | (simp; omega))).trans (by first | exact K15 | (simp only [World.cell?_drew]; exact K15) | (simp [go_sem]; done))
      replace cb : Below w.heap.size w v7 := by first | exact cb.trans (bb.mono cb.size) | exact cb.drew.trans (bb.mono cb.drew.size)
      clear bb
      go_wp2_with fail
      go_region_held3 (fun v : World => v.cell? ⟨w.heap.size, 0, none⟩ = some (.slice a0 n0 c0) ∧ v.cell? ⟨w.heap.size, 1, none⟩ = some (.slice a0' n0' c0') ∧ v.cell? ⟨w.heap.size + 1, 0, none⟩ = some (.int .i64 t1.kind) ∧ v.cell? ⟨w.heap.size + 1, 1, none⟩ = some (.string t1.name) ∧ v.cell? ⟨w.heap.size + 1, 2, none⟩ = some (.slice a1 t1.attrs.length c1) ∧ v.cell? ⟨w.heap.size + 1, 3, none⟩ = some (.string t1.text) ∧ v.cell? ⟨Bow, 0, none⟩ = some (.slice Aow R1.nodes.length Cow) ∧ v.cell? ⟨Bow, 1, none⟩ = some (.slice Dow R1.opens.length Eow) ∧ v.cell? ⟨v4.heap.size, 0, none⟩ = some (.slice Ax0 n0 Cx0) ∧ v.cell? ⟨v4.heap.size, 1, none⟩ = some (.slice Dx0 n0' Ex0) ∧ v.cell? ⟨v5.heap.size, 0, none⟩ = some (.int .i64 t1.kind) ∧ v.cell? ⟨v5.heap.size, 1, none⟩ = some (.string t1.name) ∧ v.cell? ⟨v5.heap.size, 2, none⟩ = some (.slice Ax1 t1.attrs.length Cx1) ∧ v.cell? ⟨v5.heap.size, 3, none⟩ = some (.string t1.text) ∧ v.cell? ⟨v6.heap.size, 0, none⟩ = some (.slice Aog R1.nodes.length Cog) ∧ v.cell? ⟨v6.heap.size, 1, none⟩ = some (.slice Dog R1.opens.length Eog))
        (first
          | exact ⟨K0, K1, K2, K3, K4, K5, K6, K7, K8, K9, K10, K11, K12, K13, K14, K15⟩
          | (refine ⟨?_, ?_, ?_, ?_, ?_, ?_, ?_, ?_, ?_, ?_, ?_, ?_, ?_, ?_, ?_, ?_⟩ <;> simp only [World.cell?_drew] <;> assumption))
        (first
          | (go_at_call 39
             refine (toBuilder_any ⟨l0, z0⟩ _ (by first | exact hx0.next cb | exact (hx0.next cb).drew) (by omega) y03 (by omega)).mono ?_
             rintro e v8 ⟨Ap3, Cp3, Dp3, Ep3, Lp3, rfl, p3, bb⟩
             have zz := bb.size
             try simp only [World.size_drew, World.size_alloc] at zz
             (first | replace ow := ow.below bb | replace ow := ow.drew.below bb)
             (first | replace x0 := x0.below bb | replace x0 := x0.drew.below bb)
             (first | replace x1 := x1.below bb | replace x1 := x1.drew.below bb)
             (first | replace og := og.below bb | replace og := og.drew.below bb)
             replace K0 : v8.cell? ⟨w.heap.size, 0, none⟩ = some (.slice a0 n0 c0) := ((bcell bb).1 _ _ (by first | omega | (simp; done) | (simp; omega))).trans (by first | exact K0 | (simp only [World.cell?_drew]; exact K0) | (simp [go_sem]; done))
             replace K1 : v8.cell? ⟨w.heap.size, 1, none⟩ = some (.slice a0' n0' c0') := ((bcell bb).1 _ _ (by first | omega | (simp; done) | (simp; omega))).trans (by first | exact K1 | (simp only [World.cell?_drew]; exact K1) | (simp [go_sem]; done))
             replace K2 : v8.cell? ⟨w.heap.size + 1, 0, none⟩ = some (.int .i64 t1.kind) := ((bcell bb).1 _ _ (by first | omega | (simp; done) | (simp; omega))).trans (by first | exact K2 | (simp only [World.cell?_drew]; exact K2) | (simp [go_sem]; done))
             replace K3 : v8.cell? ⟨w.heap.size + 1, 1, none⟩ = some (.string t1.name) := ((bcell bb).1 _ _ (by first | omega | (simp; done) | (simp; omega))).trans (by first | exact K3 | (simp only [World.cell?_drew]; exact K3) | (simp [go_sem]; done))
             replace K4 : v8.cell? ⟨w.heap.size + 1, 2, none⟩ = some (.slice a1 t1.attrs.length c1) := ((bcell bb).1 _ _ (by first | omega | (simp; done) | (simp; omega))).trans (by first | exact K4 | (simp only [World.cell?_drew]; exact K4) | (simp [go_sem]; done))
             replace K5 : v8.cell? ⟨w.heap.size + 1, 3, none⟩ = some (.string t1.text) := ((bcell bb).1 _ _ (by first | omega | (simp; done) | (simp; omega))).trans (by first | exact K5 | (simp only [World.cell?_drew]; exact K5) | (simp [go_sem]; done))
             replace K6 : v8.cell? ⟨Bow, 0, none⟩ = some (.slice Aow R1.nodes.length Cow) := ((bcell bb).1 _ _ (by first | omega | (simp; done) | (simp; omega))).trans (by first | exact K6 | (simp only [World.cell?_drew]; exact K6) | (simp [go_sem]; done))
             replace K7 : v8.cell? ⟨Bow, 1, none⟩ = some (.slice Dow R1.opens.length Eow) := ((bcell bb).1 _ _ (by first | omega | (simp; done) | (simp; omega))).trans (by first | exact K7 | (simp only [World.cell?_drew]; exact K7) | (simp [go_sem]; done))
             replace K8 : v8.cell? ⟨v4.heap.size, 0, none⟩ = some (.slice Ax0 n0 Cx0) := ((bcell bb).1 _ _ (by first | omega | (simp; done) | (simp; omega))).trans (by first | exact K8 | (simp only [World.cell?_drew]; exact K8) | (simp [go_sem]; done))
             replace K9 : v8.cell? ⟨v4.heap.size, 1, none⟩ = some (.slice Dx0 n0' Ex0) := ((bcell bb).1 _ _ (by first | omega | (simp; done) | (simp; omega))).trans (by first | exact K9 | (simp only [World.cell?_drew]; exact K9) | (simp [go_sem]; done))
             replace K10 : v8.cell? ⟨v5.heap.size, 0, none⟩ = some (.int .i64 t1.kind) := ((bcell bb).1 _ _ (by first | omega | (simp; done) | (simp; omega))).trans (by first | exact K10 | (simp only [World.cell?_drew]; exact K10) | (simp [go_sem]; done))
             replace K11 : v8.cell? ⟨v5.heap.size, 1, none⟩ = some (.string t1.name) := ((bcell bb).1 _ _ (by first | omega | (simp; done) | (simp; omega))).trans (by first | exact K11 | (simp only [World.cell?_drew]; exact K11) | (simp [go_sem]; done))
             replace K12 : v8.cell? ⟨v5.heap.size, 2, none⟩ = some (.slice Ax1 t1.attrs.length Cx1) := ((bcell bb).1 _ _ (by first | omega | (simp; done) | (simp; omega))).trans (by first | exact K12 | (simp only [World.cell?_drew]; exact K12) | (simp [go_sem]; done))
             replace K13 : v8.cell? ⟨v5.heap.size, 3, none⟩ = some (.string t1.text) := ((bcell bb).1 _ _ (by first | omega | (simp; done) | (simp; omega))).trans (by first | exact K13 | (simp only [World.cell?_drew]; exact K13) | (simp [go_sem]; done))
             replace K14 : v8.cell? ⟨v6.heap.size, 0, none⟩ = some (.slice Aog R1.nodes.length Cog) := ((bcell bb).1 _ _ (by first | omega | (simp; done) | (simp; omega))).trans (by first | exact K14 | (simp only [World.cell?_drew]; exact K14) | (simp [go_sem]; done))
             replace K15 : v8.cell? ⟨v6.heap.size, 1, none⟩ = some (.slice Dog R1.opens.length Eog) := ((bcell bb).1 _ _ (by first | omega | (simp; done) | (simp; omega))).trans (by first | exact K15 | (simp only [World.cell?_drew]; exact K15) | (simp [go_sem]; done))
             replace cb : Below w.heap.size w v8 := by first | exact cb.trans (bb.mono cb.size) | exact cb.drew.trans (bb.mono cb.drew.size)
             clear bb)
          | (go_at_call 34
             refine (eqBuilder_yes ⟨l0, z0⟩ _ (OwnB.rd x0 (by omega)) (OwnB.rd p3 (by omega)) (by omega) y03 (by omega)).mono ?_
             rintro e v9 ⟨rfl, bb⟩
             have zz := bb.size
             try simp only [World.size_drew, World.size_alloc] at zz
             (first | replace ow := ow.below bb | replace ow := ow.drew.below bb)
             (first | replace x0 := x0.below bb | replace x0 := x0.drew.below bb)
             (first | replace x1 := x1.below bb | replace x1 := x1.drew.below bb)
             (first | replace og := og.below bb | replace og := og.drew.below bb)
             (first | replace p3 := p3.below bb | replace p3 := p3.drew.below bb)
             replace K0 : v9.cell? ⟨w.heap.size, 0, none⟩ = some (.slice a0 n0 c0) := ((bcell bb).1 _ _ (by first | omega | (simp; done) | (simp; omega))).trans (by first | exact K0 | (simp only [World.cell?_drew]; exact K0) | (simp [go_sem]; done))
             replace K1 : v9.cell? ⟨w.heap.size, 1, none⟩ = some (.slice a0' n0' c0') := ((bcell bb).1 _ _ (by first | omega | (simp; done) | (simp; omega))).trans (by first | exact K1 | (simp only [World.cell?_drew]; exact K1) | (simp [go_sem]; done))
             replace K2 : v9.cell? ⟨w.heap.size + 1, 0, none⟩ = some (.int .i64 t1.kind) := ((bcell bb).1 _ _ (by first | omega | (simp; done) | (simp; omega))).trans (by first | exact K2 | (simp only [World.cell?_drew]; exact K2) | (simp [go_sem]; done))
             replace K3 : v9.cell? ⟨w.heap.size + 1, 1, none⟩ = some (.string t1.name) := ((bcell bb).1 _ _ (by first | omega | (simp; done) | (simp; omega))).trans (by first | exact K3 | (simp only [World.cell?_drew]; exact K3) | (simp [go_sem]; done))
             replace K4 : v9.cell? ⟨w.heap.size + 1, 2, none⟩ = some (.slice a1 t1.attrs.length c1) := ((bcell bb).1 _ _ (by first | omega | (simp; done) | (simp; omega))).trans (by first | exact K4 | (simp only [World.cell?_drew]; exact K4) | (simp [go_sem]; done))
             replace K5 : v9.cell? ⟨w.heap.size + 1, 3, none⟩ = some (.string t1.text) := ((bcell bb).1 _ _ (by first | omega | (simp; done) | (simp; omega))).trans (by first | exact K5 | (simp only [World.cell?_drew]; exact K5) | (simp [go_sem]; done))
             replace K6 : v9.cell? ⟨Bow, 0, none⟩ = some (.slice Aow R1.nodes.length Cow) := ((bcell bb).1 _ _ (by first | omega | (simp; done) | (simp; omega))).trans (by first | exact K6 | (simp only [World.cell?_drew]; exact K6) | (simp [go_sem]; done))
             replace K7 : v9.cell? ⟨Bow, 1, none⟩ = some (.slice Dow R1.opens.length Eow) := ((bcell bb).1 _ _ (by first | omega | (simp; done) | (simp; omega))).trans (by first | exact K7 | (simp only [World.cell?_drew]; exact K7) | (simp [go_sem]; done))
             replace K8 : v9.cell? ⟨v4.heap.size, 0, none⟩ = some (.slice Ax0 n0 Cx0) := ((bcell bb).1 _ _ (by first | omega | (simp; done) | (simp; omega))).trans (by first | exact K8 | (simp only [World.cell?_drew]; exact K8) | (simp [go_sem]; done))
             replace K9 : v9.cell? ⟨v4.heap.size, 1, none⟩ = some (.slice Dx0 n0' Ex0) := ((bcell bb).1 _ _ (by first | omega | (simp; done) | (simp; omega))).trans (by first | exact K9 | (simp only [World.cell?_drew]; exact K9) | (simp [go_sem]; done))
             replace K10 : v9.cell? ⟨v5.heap.size, 0, none⟩ = some (.int .i64 t1.kind) := ((bcell bb).1 _ _ (by first | omega | (simp; done) | (simp; omega))).trans (by first | exact K10 | (simp only [World.cell?_drew]; exact K10) | (simp [go_sem]; done))
             replace K11 : v9.cell? ⟨v5.heap.size, 1, none⟩ = some (.string t1.name) := ((bcell bb).1 _ _ (by first | omega | (simp; done) | (simp; omega))).trans (by first | exact K11 | (simp only [World.cell?_drew]; exact K11) | (simp [go_sem]; done))
             replace K12 : v9.cell? ⟨v5.heap.size, 2, none⟩ = some (.slice Ax1 t1.attrs.length Cx1) := ((bcell bb).1 _ _ (by first | omega | (simp; done) | (simp; omega))).trans (by first | exact K12 | (simp only [World.cell?_drew]; exact K12) | (simp [go_sem]; done))
             replace K13 : v9.cell? ⟨v5.heap.size, 3, none⟩ = some (.string t1.text) := ((bcell bb).1 _ _ (by first | omega | (simp; done) | (simp; omega))).trans (by first | exact K13 | (simp only [World.cell?_drew]; exact K13) | (simp [go_sem]; done))
             replace K14 : v9.cell? ⟨v6.heap.size, 0, none⟩ = some (.slice Aog R1.nodes.length Cog) := ((bcell bb).1 _ _ (by first | omega | (simp; done) | (simp; omega))).trans (by first | exact K14 | (simp only [World.cell?_drew]; exact K14) | (simp [go_sem]; done))
             replace K15 : v9.cell? ⟨v6.heap.size, 1, none⟩ = some (.slice Dog R1.opens.length Eog) := ((bcell bb).1 _ _ (by first | omega | (simp; done) | (simp; omega))).trans (by first | exact K15 | (simp only [World.cell?_drew]; exact K15) | (simp [go_sem]; done))
             replace cb : Below w.heap.size w v9 := by first | exact cb.trans (bb.mono cb.size) | exact cb.drew.trans (bb.mono cb.drew.size)
             clear bb))
      clear p3
      go_wp2_with fail
      go_region_held3 (fun v : World => v.cell? ⟨w.heap.size, 0, none⟩ = some (.slice a0 n0 c0) ∧ v.cell? ⟨w.heap.size, 1, none⟩ = some (.slice a0' n0' c0') ∧ v.cell? ⟨w.heap.size + 1, 0, none⟩ = some (.int .i64 t1.kind) ∧ v.cell? ⟨w.heap.size + 1, 1, none⟩ = some (.string t1.name) ∧ v.cell? ⟨w.heap.size + 1, 2, none⟩ = some (.slice a1 t1.attrs.length c1) ∧ v.cell? ⟨w.heap.size + 1, 3, none⟩ = some (.string t1.text) ∧ v.cell? ⟨Bow, 0, none⟩ = some (.slice Aow R1.nodes.length Cow) ∧ v.cell? ⟨Bow, 1, none⟩ = some (.slice Dow R1.opens.length Eow) ∧ v.cell? ⟨v4.heap.size, 0, none⟩ = some (.slice Ax0 n0 Cx0) ∧ v.cell? ⟨v4.heap.size, 1, none⟩ = some (.slice Dx0 n0' Ex0) ∧ v.cell? ⟨v5.heap.size, 0, none⟩ = some (.int .i64 t1.kind) ∧ v.cell? ⟨v5.heap.size, 1, none⟩ = some (.string t1.name) ∧ v.cell? ⟨v5.heap.size, 2, none⟩ = some (.slice Ax1 t1.attrs.length Cx1) ∧ v.cell? ⟨v5.heap.size, 3, none⟩ = some (.string t1.text) ∧ v.cell? ⟨v6.heap.size, 0, none⟩ = some (.slice Aog R1.nodes.length Cog) ∧ v.cell? ⟨v6.heap.size, 1, none⟩ = some (.slice Dog R1.opens.length Eog))
        (first
          | exact ⟨K0, K1, K2, K3, K4, K5, K6, K7, K8, K9, K10, K11, K12, K13, K14, K15⟩
          | (refine ⟨?_, ?_, ?_, ?_, ?_, ?_, ?_, ?_, ?_, ?_, ?_, ?_, ?_, ?_, ?_, ?_⟩ <;> simp only [World.cell?_drew] <;> assumption))
        (first
          | (go_at_call 22
             refine (toToken_any t1 _ (by first | exact (hx1.below cb).more cb.size | exact ((hx1.below cb).more cb.size).drew) e2).mono ?_
             rintro e v10 ⟨A4, C4, rfl, p4, bb⟩
             have zz := bb.size
             try simp only [World.size_drew, World.size_alloc] at zz
             (first | replace ow := ow.below bb | replace ow := ow.drew.below bb)
             (first | replace x0 := x0.below bb | replace x0 := x0.drew.below bb)
             (first | replace x1 := x1.below bb | replace x1 := x1.drew.below bb)
             (first | replace og := og.below bb | replace og := og.drew.below bb)
             replace K0 : v10.cell? ⟨w.heap.size, 0, none⟩ = some (.slice a0 n0 c0) := ((bcell bb).1 _ _ (by first | omega | (simp; done) | (simp; omega))).trans (by first | exact K0 | (simp only [World.cell?_drew]; exact K0) | (simp [go_sem]; done))
             replace K1 : v10.cell? ⟨w.heap.size, 1, none⟩ = some (.slice a0' n0' c0') := ((bcell bb).1 _ _ (by first | omega | (simp; done) | (simp; omega))).trans (by first | exact K1 | (simp only [World.cell?_drew]; exact K1) | (simp [go_sem]; done))
             replace K2 : v10.cell? ⟨w.heap.size + 1, 0, none⟩ = some (.int .i64 t1.kind) := ((bcell bb).1 _ _ (by first | omega | (simp; done) | (simp; omega))).trans (by first | exact K2 | (simp only [World.cell?_drew]; exact K2) | (simp [go_sem]; done))
             replace K3 : v10.cell? ⟨w.heap.size + 1, 1, none⟩ = some (.string t1.name) := ((bcell bb).1 _ _ (by first | omega | (simp; done) | (simp; omega))).trans (by first | exact K3 | (simp only [World.cell?_drew]; exact K3) | (simp [go_sem]; done))
             replace K4 : v10.cell? ⟨w.heap.size + 1, 2, none⟩ = some (.slice a1 t1.attrs.length c1) := ((bcell bb).1 _ _ (by first | omega | (simp; done) | (simp; omega))).trans (by first | exact K4 | (simp only [World.cell?_drew]; exact K4) | (simp [go_sem]; done))
             replace K5 : v10.cell? ⟨w.heap.size + 1, 3, none⟩ = some (.string t1.text) := ((bcell bb).1 _ _ (by first | omega | (simp; done) | (simp; omega))).trans (by first | exact K5 | (simp only [World.cell?_drew]; exact K5) | (simp [go_sem]; done))
             replace K6 : v10.cell? ⟨Bow, 0, none⟩ = some (.slice Aow R1.nodes.length Cow) := ((bcell bb).1 _ _ (by first | omega | (simp; done) | (simp; omega))).trans (by first | exact K6 | (simp only [World.cell?_drew]; exact K6) | (simp [go_sem]; done))
             replace K7 : v10.cell? ⟨Bow, 1, none⟩ = some (.slice Dow R1.opens.length Eow) := ((bcell bb).1 _ _ (by first | omega | (simp; done) | (simp; omega))).trans (by first | exact K7 | (simp only [World.cell?_drew]; exact K7) | (simp [go_sem]; done))
             replace K8 : v10.cell? ⟨v4.heap.size, 0, none⟩ = some (.slice Ax0 n0 Cx0) := ((bcell bb).1 _ _ (by first | omega | (simp; done) | (simp; omega))).trans (by first | exact K8 | (simp only [World.cell?_drew]; exact K8) | (simp [go_sem]; done))
             replace K9 : v10.cell? ⟨v4.heap.size, 1, none⟩ = some (.slice Dx0 n0' Ex0) := ((bcell bb).1 _ _ (by first | omega | (simp; done) | (simp; omega))).trans (by first | exact K9 | (simp only [World.cell?_drew]; exact K9) | (simp [go_sem]; done))
             replace K10 : v10.cell? ⟨v5.heap.size, 0, none⟩ = some (.int .i64 t1.kind) := ((bcell bb).1 _ _ (by first | omega | (simp; done) | (simp; omega))).trans (by first | exact K10 | (simp only [World.cell?_drew]; exact K10) | (simp [go_sem]; done))
             replace K11 : v10.cell? ⟨v5.heap.size, 1, none⟩ = some (.string t1.name) := ((bcell bb).1 _ _ (by first | omega | (simp; done) | (simp; omega))).trans (by first | exact K11 | (simp only [World.cell?_drew]; exact K11) | (simp [go_sem]; done))
             replace K12 : v10.cell? ⟨v5.heap.size, 2, none⟩ = some (.slice Ax1 t1.attrs.length Cx1) := ((bcell bb).1 _ _ (by first | omega | (simp; done) | (simp; omega))).trans (by first | exact K12 | (simp only [World.cell?_drew]; exact K12) | (simp [go_sem]; done))
             replace K13 : v10.cell? ⟨v5.heap.size, 3, none⟩ = some (.string t1.text) := ((bcell bb).1 _ _ (by first | omega | (simp; done) | (simp; omega))).trans (by first | exact K13 | (simp only [World.cell?_drew]; exact K13) | (simp [go_sem]; done))
             replace K14 : v10.cell? ⟨v6.heap.size, 0, none⟩ = some (.slice Aog R1.nodes.length Cog) := ((bcell bb).1 _ _ (by first | omega | (simp; done) | (simp; omega))).trans (by first | exact K14 | (simp only [World.cell?_drew]; exact K14) | (simp [go_sem]; done))
             replace K15 : v10.cell? ⟨v6.heap.size, 1, none⟩ = some (.slice Dog R1.opens.length Eog) := ((bcell bb).1 _ _ (by first | omega | (simp; done) | (simp; omega))).trans (by first | exact K15 | (simp only [World.cell?_drew]; exact K15) | (simp [go_sem]; done))
             replace cb : Below w.heap.size w v10 := by first | exact cb.trans (bb.mono cb.size) | exact cb.drew.trans (bb.mono cb.drew.size)
             clear bb)
          | (go_at_call 24
             refine (eqToken_yes t1 _ (Reads.of_own x1.1) (Reads.of_own p4.1) e2).mono ?_
             rintro e v11 ⟨rfl, bb⟩
             have zz := bb.size
             try simp only [World.size_drew, World.size_alloc] at zz
             (first | replace ow := ow.below bb | replace ow := ow.drew.below bb)
             (first | replace x0 := x0.below bb | replace x0 := x0.drew.below bb)
             (first | replace x1 := x1.below bb | replace x1 := x1.drew.below bb)
             (first | replace og := og.below bb | replace og := og.drew.below bb)
             (first | replace p4 := p4.below bb | replace p4 := p4.drew.below bb)
             replace K0 : v11.cell? ⟨w.heap.size, 0, none⟩ = some (.slice a0 n0 c0) := ((bcell bb).1 _ _ (by first | omega | (simp; done) | (simp; omega))).trans (by first | exact K0 | (simp only [World.cell?_drew]; exact K0) | (simp [go_sem]; done))
             replace K1 : v11.cell? ⟨w.heap.size, 1, none⟩ = some (.slice a0' n0' c0') := ((bcell bb).1 _ _ (by first | omega | (simp; done) | (simp; omega))).trans (by first | exact K1 | (simp only [World.cell?_drew]; exact K1) | (simp [go_sem]; done))
             replace K2 : v11.cell? ⟨w.heap.size + 1, 0, none⟩ = some (.int .i64 t1.kind) := ((bcell bb).1 _ _ (by first | omega | (simp; done) | (simp; omega))).trans (by first | exact K2 | (simp only [World.cell?_drew]; exact K2) | (simp [go_sem]; done))
             replace K3 : v11.cell? ⟨w.heap.size + 1, 1, none⟩ = some (.string t1.name) := ((bcell bb).1 _ _ (by first | omega | (simp; done) | (simp; omega))).trans (by first | exact K3 | (simp only [World.cell?_drew]; exact K3) | (simp [go_sem]; done))
             replace K4 : v11.cell? ⟨w.heap.size + 1, 2, none⟩ = some (.slice a1 t1.attrs.length c1) := ((bcell bb).1 _ _ (by first | omega | (simp; done) | (simp; omega))).trans (by first | exact K4 | (simp only [World.cell?_drew]; exact K4) | (simp [go_sem]; done))
             replace K5 : v11.cell? ⟨w.heap.size + 1, 3, none⟩ = some (.string t1.text) := ((bcell bb).1 _ _ (by first | omega | (simp; done) | (simp; omega))).trans (by first | exact K5 | (simp only [World.cell?_drew]; exact K5) | (simp [go_sem]; done))
             replace K6 : v11.cell? ⟨Bow, 0, none⟩ = some (.slice Aow R1.nodes.length Cow) := ((bcell bb).1 _ _ (by first | omega | (simp; done) | (simp; omega))).trans (by first | exact K6 | (simp only [World.cell?_drew]; exact K6) | (simp [go_sem]; done))
             replace K7 : v11.cell? ⟨Bow, 1, none⟩ = some (.slice Dow R1.opens.length Eow) := ((bcell bb).1 _ _ (by first | omega | (simp; done) | (simp; omega))).trans (by first | exact K7 | (simp only [World.cell?_drew]; exact K7) | (simp [go_sem]; done))
             replace K8 : v11.cell? ⟨v4.heap.size, 0, none⟩ = some (.slice Ax0 n0 Cx0) := ((bcell bb).1 _ _ (by first | omega | (simp; done) | (simp; omega))).trans (by first | exact K8 | (simp only [World.cell?_drew]; exact K8) | (simp [go_sem]; done))
             replace K9 : v11.cell? ⟨v4.heap.size, 1, none⟩ = some (.slice Dx0 n0' Ex0) := ((bcell bb).1 _ _ (by first | omega | (simp; done) | (simp; omega))).trans (by first | exact K9 | (simp only [World.cell?_drew]; exact K9) | (simp [go_sem]; done))
             replace K10 : v11.cell? ⟨v5.heap.size, 0, none⟩ = some (.int .i64 t1.kind) := ((bcell bb).1 _ _ (by first | omega | (simp; done) | (simp; omega))).trans (by first | exact K10 | (simp only [World.cell?_drew]; exact K10) | (simp [go_sem]; done))
             replace K11 : v11.cell? ⟨v5.heap.size, 1, none⟩ = some (.string t1.name) := ((bcell bb).1 _ _ (by first | omega | (simp; done) | (simp; omega))).trans (by first | exact K11 | (simp only [World.cell?_drew]; exact K11) | (simp [go_sem]; done))
             replace K12 : v11.cell? ⟨v5.heap.size, 2, none⟩ = some (.slice Ax1 t1.attrs.length Cx1) := ((bcell bb).1 _ _ (by first | omega | (simp; done) | (simp; omega))).trans (by first | exact K12 | (simp only [World.cell?_drew]; exact K12) | (simp [go_sem]; done))
             replace K13 : v11.cell? ⟨v5.heap.size, 3, none⟩ = some (.string t1.text) := ((bcell bb).1 _ _ (by first | omega | (simp; done) | (simp; omega))).trans (by first | exact K13 | (simp only [World.cell?_drew]; exact K13) | (simp [go_sem]; done))
             replace K14 : v11.cell? ⟨v6.heap.size, 0, none⟩ = some (.slice Aog R1.nodes.length Cog) := ((bcell bb).1 _ _ (by first | omega | (simp; done) | (simp; omega))).trans (by first | exact K14 | (simp only [World.cell?_drew]; exact K14) | (simp [go_sem]; done))
             replace K15 : v11.cell? ⟨v6.heap.size, 1, none⟩ = some (.slice Dog R1.opens.length Eog) := ((bcell bb).1 _ _ (by first | omega | (simp; done) | (simp; omega))).trans (by first | exact K15 | (simp only [World.cell?_drew]; exact K15) | (simp [go_sem]; done))
             replace cb : Below w.heap.size w v11 := by first | exact cb.trans (bb.mono cb.size) | exact cb.drew.trans (bb.mono cb.drew.size)
             clear bb))
      clear p4
      go_wp2_with fail
      refine (markBuilder_some _ x0 (by omega) (by omega) (by omega) (by omega) (by first | omega | (simp only; omega))).mono ?_
      rintro e v12 ⟨Q1, rfl, hq1a, hq1b, bb⟩
      have zz := bb.size
      try simp only [World.size_drew, World.size_alloc] at zz
      replace cb : Below w.heap.size w v12 := cb.trans (bb.below cb.size (fun k hk => by have := hk.1; omega))
      replace ow := ow.keep bb (fun k hk => by have h1 := hk.1; have h2 := hk.2; omega)
      replace x1 := x1.keep bb (fun k hk => by have h1 := hk.1; have h2 := hk.2; omega)
      replace og := og.keep bb (fun k hk => by have h1 := hk.1; have h2 := hk.2; omega)
      replace K0 : v12.cell? ⟨w.heap.size, 0, none⟩ = some (.slice a0 n0 c0) := (keeps_cell bb (by omega) (fun hk => by have h1 := hk.1; have h2 := hk.2; omega)).trans K0
      replace K1 : v12.cell? ⟨w.heap.size, 1, none⟩ = some (.slice a0' n0' c0') := (keeps_cell bb (by omega) (fun hk => by have h1 := hk.1; have h2 := hk.2; omega)).trans K1
      replace K2 : v12.cell? ⟨w.heap.size + 1, 0, none⟩ = some (.int .i64 t1.kind) := (keeps_cell bb (by omega) (fun hk => by have h1 := hk.1; have h2 := hk.2; omega)).trans K2
      replace K3 : v12.cell? ⟨w.heap.size + 1, 1, none⟩ = some (.string t1.name) := (keeps_cell bb (by omega) (fun hk => by have h1 := hk.1; have h2 := hk.2; omega)).trans K3
      replace K4 : v12.cell? ⟨w.heap.size + 1, 2, none⟩ = some (.slice a1 t1.attrs.length c1) := (keeps_cell bb (by omega) (fun hk => by have h1 := hk.1; have h2 := hk.2; omega)).trans K4
      replace K5 : v12.cell? ⟨w.heap.size + 1, 3, none⟩ = some (.string t1.text) := (keeps_cell bb (by omega) (fun hk => by have h1 := hk.1; have h2 := hk.2; omega)).trans K5
      replace K6 : v12.cell? ⟨Bow, 0, none⟩ = some (.slice Aow R1.nodes.length Cow) := (keeps_cell bb (by omega) (fun hk => by have h1 := hk.1; have h2 := hk.2; omega)).trans K6
      replace K7 : v12.cell? ⟨Bow, 1, none⟩ = some (.slice Dow R1.opens.length Eow) := (keeps_cell bb (by omega) (fun hk => by have h1 := hk.1; have h2 := hk.2; omega)).trans K7
      replace K8 : v12.cell? ⟨v4.heap.size, 0, none⟩ = some (.slice Ax0 n0 Cx0) := (keeps_cell bb (by omega) (fun hk => by have h1 := hk.1; have h2 := hk.2; omega)).trans K8
      replace K9 : v12.cell? ⟨v4.heap.size, 1, none⟩ = some (.slice Dx0 n0' Ex0) := (keeps_cell bb (by omega) (fun hk => by have h1 := hk.1; have h2 := hk.2; omega)).trans K9
      replace K10 : v12.cell? ⟨v5.heap.size, 0, none⟩ = some (.int .i64 t1.kind) := (keeps_cell bb (by omega) (fun hk => by have h1 := hk.1; have h2 := hk.2; omega)).trans K10
      replace K11 : v12.cell? ⟨v5.heap.size, 1, none⟩ = some (.string t1.name) := (keeps_cell bb (by omega) (fun hk => by have h1 := hk.1; have h2 := hk.2; omega)).trans K11
      replace K12 : v12.cell? ⟨v5.heap.size, 2, none⟩ = some (.slice Ax1 t1.attrs.length Cx1) := (keeps_cell bb (by omega) (fun hk => by have h1 := hk.1; have h2 := hk.2; omega)).trans K12
      replace K13 : v12.cell? ⟨v5.heap.size, 3, none⟩ = some (.string t1.text) := (keeps_cell bb (by omega) (fun hk => by have h1 := hk.1; have h2 := hk.2; omega)).trans K13
      replace K14 : v12.cell? ⟨v6.heap.size, 0, none⟩ = some (.slice Aog R1.nodes.length Cog) := (keeps_cell bb (by omega) (fun hk => by have h1 := hk.1; have h2 := hk.2; omega)).trans K14
      replace K15 : v12.cell? ⟨v6.heap.size, 1, none⟩ = some (.slice Dog R1.opens.length Eog) := (keeps_cell bb (by omega) (fun hk => by have h1 := hk.1; have h2 := hk.2; omega)).trans K15
      clear bb
      clear x0
      simp only at hq1b
      go_wp2_with fail
      refine (markToken_some _ x1 (by omega) (by first | omega | (simp only [World.size_alloc]; omega)) (by omega) (by omega) (by omega)).mono ?_
      rintro e v13 ⟨Q2, rfl, hq2a, hq2b, bb⟩
      have zz := bb.size
      try simp only [World.size_drew, World.size_alloc] at zz
      replace cb : Below w.heap.size w v13 := cb.trans (bb.below cb.size (fun k hk => by have := hk.1; omega))
      replace ow := ow.keep bb (fun k hk => by have h1 := hk.1; have h2 := hk.2; omega)
      replace og := og.keep bb (fun k hk => by have h1 := hk.1; have h2 := hk.2; omega)
      replace K0 : v13.cell? ⟨w.heap.size, 0, none⟩ = some (.slice a0 n0 c0) := (keeps_cell bb (by omega) (fun hk => by have h1 := hk.1; have h2 := hk.2; omega)).trans K0
      replace K1 : v13.cell? ⟨w.heap.size, 1, none⟩ = some (.slice a0' n0' c0') := (keeps_cell bb (by omega) (fun hk => by have h1 := hk.1; have h2 := hk.2; omega)).trans K1
      replace K2 : v13.cell? ⟨w.heap.size + 1, 0, none⟩ = some (.int .i64 t1.kind) := (keeps_cell bb (by omega) (fun hk => by have h1 := hk.1; have h2 := hk.2; omega)).trans K2
      replace K3 : v13.cell? ⟨w.heap.size + 1, 1, none⟩ = some (.string t1.name) := (keeps_cell bb (by omega) (fun hk => by have h1 := hk.1; have h2 := hk.2; omega)).trans K3
      replace K4 : v13.cell? ⟨w.heap.size + 1, 2, none⟩ = some (.slice a1 t1.attrs.length c1) := (keeps_cell bb (by omega) (fun hk => by have h1 := hk.1; have h2 := hk.2; omega)).trans K4
      replace K5 : v13.cell? ⟨w.heap.size + 1, 3, none⟩ = some (.string t1.text) := (keeps_cell bb (by omega) (fun hk => by have h1 := hk.1; have h2 := hk.2; omega)).trans K5
      replace K6 : v13.cell? ⟨Bow, 0, none⟩ = some (.slice Aow R1.nodes.length Cow) := (keeps_cell bb (by omega) (fun hk => by have h1 := hk.1; have h2 := hk.2; omega)).trans K6
      replace K7 : v13.cell? ⟨Bow, 1, none⟩ = some (.slice Dow R1.opens.length Eow) := (keeps_cell bb (by omega) (fun hk => by have h1 := hk.1; have h2 := hk.2; omega)).trans K7
      replace K8 : v13.cell? ⟨v4.heap.size, 0, none⟩ = some (.slice Ax0 n0 Cx0) := (keeps_cell bb (by omega) (fun hk => by have h1 := hk.1; have h2 := hk.2; omega)).trans K8
      replace K9 : v13.cell? ⟨v4.heap.size, 1, none⟩ = some (.slice Dx0 n0' Ex0) := (keeps_cell bb (by omega) (fun hk => by have h1 := hk.1; have h2 := hk.2; omega)).trans K9
      replace K10 : v13.cell? ⟨v5.heap.size, 0, none⟩ = some (.int .i64 t1.kind) := (keeps_cell bb (by omega) (fun hk => by have h1 := hk.1; have h2 := hk.2; omega)).trans K10
      replace K11 : v13.cell? ⟨v5.heap.size, 1, none⟩ = some (.string t1.name) := (keeps_cell bb (by omega) (fun hk => by have h1 := hk.1; have h2 := hk.2; omega)).trans K11
      replace K12 : v13.cell? ⟨v5.heap.size, 2, none⟩ = some (.slice Ax1 t1.attrs.length Cx1) := (keeps_cell bb (by omega) (fun hk => by have h1 := hk.1; have h2 := hk.2; omega)).trans K12
      replace K13 : v13.cell? ⟨v5.heap.size, 3, none⟩ = some (.string t1.text) := (keeps_cell bb (by omega) (fun hk => by have h1 := hk.1; have h2 := hk.2; omega)).trans K13
      replace K14 : v13.cell? ⟨v6.heap.size, 0, none⟩ = some (.slice Aog R1.nodes.length Cog) := (keeps_cell bb (by omega) (fun hk => by have h1 := hk.1; have h2 := hk.2; omega)).trans K14
      replace K15 : v13.cell? ⟨v6.heap.size, 1, none⟩ = some (.slice Dog R1.opens.length Eog) := (keeps_cell bb (by omega) (fun hk => by have h1 := hk.1; have h2 := hk.2; omega)).trans K15
      clear bb
      clear x1
      have hqd : decide (Q2 < 0) = false := by simp; omega
      go_wp2_with fail
      refine (eqBuilder_yes R1 _ (OwnB.rd og (by omega)) (OwnB.rd ow (by omega)) (by omega) hr3 (by omega)).mono ?_
      rintro e v14 ⟨rfl, bb⟩
      have zz := bb.size
      try simp only [World.size_drew, World.size_alloc] at zz
      replace ow := ow.below bb
      replace og := og.below bb
      replace K0 : v14.cell? ⟨w.heap.size, 0, none⟩ = some (.slice a0 n0 c0) := ((bcell bb).1 _ _ (by first | omega | (simp; done) | (simp; omega))).trans (by first | exact K0 | (simp only [World.cell?_drew]; exact K0) | (simp [go_sem]; done))
      replace K1 : v14.cell? ⟨w.heap.size, 1, none⟩ = some (.slice a0' n0' c0') := ((bcell bb).1 _ _ (by first | omega | (simp; done) | (simp; omega))).trans (by first | exact K1 | (simp only [World.cell?_drew]; exact K1) | (simp [go_sem]; done))
      replace K2 : v14.cell? ⟨w.heap.size + 1, 0, none⟩ = some (.int .i64 t1.kind) := ((bcell bb).1 _ _ (by first | omega | (simp; done) | (simp; omega))).trans (by first | exact K2 | (simp only [World.cell?_drew]; exact K2) | (simp [go_sem]; done))
      replace K3 : v14.cell? ⟨w.heap.size + 1, 1, none⟩ = some (.string t1.name) := ((bcell bb).1 _ _ (by first | omega | (simp; done) | (simp; omega))).trans (by first | exact K3 | (simp only [World.cell?_drew]; exact K3) | (simp [go_sem]; done))
      replace K4 : v14.cell? ⟨w.heap.size + 1, 2, none⟩ = some (.slice a1 t1.attrs.length c1) := ((bcell bb).1 _ _ (by first | omega | (simp; done) | (simp; omega))).trans (by first | exact K4 | (simp only [World.cell?_drew]; exact K4) | (simp [go_sem]; done))
      replace K5 : v14.cell? ⟨w.heap.size + 1, 3, none⟩ = some (.string t1.text) := ((bcell bb).1 _ _ (by first | omega | (simp; done) | (simp; omega))).trans (by first | exact K5 | (simp only [World.cell?_drew]; exact K5) | (simp [go_sem]; done))
      replace K6 : v14.cell? ⟨Bow, 0, none⟩ = some (.slice Aow R1.nodes.length Cow) := ((bcell bb).1 _ _ (by first | omega | (simp; done) | (simp; omega))).trans (by first | exact K6 | (simp only [World.cell?_drew]; exact K6) | (simp [go_sem]; done))
      replace K7 : v14.cell? ⟨Bow, 1, none⟩ = some (.slice Dow R1.opens.length Eow) := ((bcell bb).1 _ _ (by first | omega | (simp; done) | (simp; omega))).trans (by first | exact K7 | (simp only [World.cell?_drew]; exact K7) | (simp [go_sem]; done))
      replace K8 : v14.cell? ⟨v4.heap.size, 0, none⟩ = some (.slice Ax0 n0 Cx0) := ((bcell bb).1 _ _ (by first | omega | (simp; done) | (simp; omega))).trans (by first | exact K8 | (simp only [World.cell?_drew]; exact K8) | (simp [go_sem]; done))
      replace K9 : v14.cell? ⟨v4.heap.size, 1, none⟩ = some (.slice Dx0 n0' Ex0) := ((bcell bb).1 _ _ (by first | omega | (simp; done) | (simp; omega))).trans (by first | exact K9 | (simp only [World.cell?_drew]; exact K9) | (simp [go_sem]; done))
      replace K10 : v14.cell? ⟨v5.heap.size, 0, none⟩ = some (.int .i64 t1.kind) := ((bcell bb).1 _ _ (by first | omega | (simp; done) | (simp; omega))).trans (by first | exact K10 | (simp only [World.cell?_drew]; exact K10) | (simp [go_sem]; done))
      replace K11 : v14.cell? ⟨v5.heap.size, 1, none⟩ = some (.string t1.name) := ((bcell bb).1 _ _ (by first | omega | (simp; done) | (simp; omega))).trans (by first | exact K11 | (simp only [World.cell?_drew]; exact K11) | (simp [go_sem]; done))
      replace K12 : v14.cell? ⟨v5.heap.size, 2, none⟩ = some (.slice Ax1 t1.attrs.length Cx1) := ((bcell bb).1 _ _ (by first | omega | (simp; done) | (simp; omega))).trans (by first | exact K12 | (simp only [World.cell?_drew]; exact K12) | (simp [go_sem]; done))
      replace K13 : v14.cell? ⟨v5.heap.size, 3, none⟩ = some (.string t1.text) := ((bcell bb).1 _ _ (by first | omega | (simp; done) | (simp; omega))).trans (by first | exact K13 | (simp only [World.cell?_drew]; exact K13) | (simp [go_sem]; done))
      replace K14 : v14.cell? ⟨v6.heap.size, 0, none⟩ = some (.slice Aog R1.nodes.length Cog) := ((bcell bb).1 _ _ (by first | omega | (simp; done) | (simp; omega))).trans (by first | exact K14 | (simp only [World.cell?_drew]; exact K14) | (simp [go_sem]; done))
      replace K15 : v14.cell? ⟨v6.heap.size, 1, none⟩ = some (.slice Dog R1.opens.length Eog) := ((bcell bb).1 _ _ (by first | omega | (simp; done) | (simp; omega))).trans (by first | exact K15 | (simp only [World.cell?_drew]; exact K15) | (simp [go_sem]; done))
      replace cb : Below w.heap.size w v14 := by first | exact cb.trans (bb.mono cb.size) | exact cb.drew.trans (bb.mono cb.drew.size)
      clear bb
      go_wp2_with fail
      refine (markBuilder_any _ og (by omega) (by omega) (by omega) (by omega) (by omega)).mono ?_
      rintro e v15 ⟨rfl, om, bb⟩
      have zz := bb.size
      try simp only [World.size_drew, World.size_alloc] at zz
      replace cb : Below w.heap.size w v15 := cb.trans (bb.below cb.size (fun k hk => by have := hk.1; omega))
      replace ow := ow.keep bb (fun k hk => by have h1 := hk.1; have h2 := hk.2; omega)
      replace K0 : v15.cell? ⟨w.heap.size, 0, none⟩ = some (.slice a0 n0 c0) := (keeps_cell bb (by omega) (fun hk => by have h1 := hk.1; have h2 := hk.2; omega)).trans K0
      replace K1 : v15.cell? ⟨w.heap.size, 1, none⟩ = some (.slice a0' n0' c0') := (keeps_cell bb (by omega) (fun hk => by have h1 := hk.1; have h2 := hk.2; omega)).trans K1
      replace K2 : v15.cell? ⟨w.heap.size + 1, 0, none⟩ = some (.int .i64 t1.kind) := (keeps_cell bb (by omega) (fun hk => by have h1 := hk.1; have h2 := hk.2; omega)).trans K2
      replace K3 : v15.cell? ⟨w.heap.size + 1, 1, none⟩ = some (.string t1.name) := (keeps_cell bb (by omega) (fun hk => by have h1 := hk.1; have h2 := hk.2; omega)).trans K3
      replace K4 : v15.cell? ⟨w.heap.size + 1, 2, none⟩ = some (.slice a1 t1.attrs.length c1) := (keeps_cell bb (by omega) (fun hk => by have h1 := hk.1; have h2 := hk.2; omega)).trans K4
      replace K5 : v15.cell? ⟨w.heap.size + 1, 3, none⟩ = some (.string t1.text) := (keeps_cell bb (by omega) (fun hk => by have h1 := hk.1; have h2 := hk.2; omega)).trans K5
      replace K6 : v15.cell? ⟨Bow, 0, none⟩ = some (.slice Aow R1.nodes.length Cow) := (keeps_cell bb (by omega) (fun hk => by have h1 := hk.1; have h2 := hk.2; omega)).trans K6
      replace K7 : v15.cell? ⟨Bow, 1, none⟩ = some (.slice Dow R1.opens.length Eow) := (keeps_cell bb (by omega) (fun hk => by have h1 := hk.1; have h2 := hk.2; omega)).trans K7
      replace K8 : v15.cell? ⟨v4.heap.size, 0, none⟩ = some (.slice Ax0 n0 Cx0) := (keeps_cell bb (by omega) (fun hk => by have h1 := hk.1; have h2 := hk.2; omega)).trans K8
      replace K9 : v15.cell? ⟨v4.heap.size, 1, none⟩ = some (.slice Dx0 n0' Ex0) := (keeps_cell bb (by omega) (fun hk => by have h1 := hk.1; have h2 := hk.2; omega)).trans K9
      replace K10 : v15.cell? ⟨v5.heap.size, 0, none⟩ = some (.int .i64 t1.kind) := (keeps_cell bb (by omega) (fun hk => by have h1 := hk.1; have h2 := hk.2; omega)).trans K10
      replace K11 : v15.cell? ⟨v5.heap.size, 1, none⟩ = some (.string t1.name) := (keeps_cell bb (by omega) (fun hk => by have h1 := hk.1; have h2 := hk.2; omega)).trans K11
      replace K12 : v15.cell? ⟨v5.heap.size, 2, none⟩ = some (.slice Ax1 t1.attrs.length Cx1) := (keeps_cell bb (by omega) (fun hk => by have h1 := hk.1; have h2 := hk.2; omega)).trans K12
      replace K13 : v15.cell? ⟨v5.heap.size, 3, none⟩ = some (.string t1.text) := (keeps_cell bb (by omega) (fun hk => by have h1 := hk.1; have h2 := hk.2; omega)).trans K13
      replace K14 : v15.cell? ⟨v6.heap.size, 0, none⟩ = some (.slice Aog R1.nodes.length Cog) := (keeps_cell bb (by omega) (fun hk => by have h1 := hk.1; have h2 := hk.2; omega)).trans K14
      replace K15 : v15.cell? ⟨v6.heap.size, 1, none⟩ = some (.slice Dog R1.opens.length Eog) := (keeps_cell bb (by omega) (fun hk => by have h1 := hk.1; have h2 := hk.2; omega)).trans K15
      clear bb
      clear og
      replace om := om.more (by omega : _ ≤ v15.heap.size)
      go_wp2_with fail
      refine (heldBuilder_any _ om (by omega) (by omega) (by omega) (by omega)).mono ?_
      rintro e v16 ⟨rfl, bb⟩
      have zz := bb.size
      try simp only [World.size_drew, World.size_alloc] at zz
      replace ow := ow.below bb
      replace om := om.next bb
      replace K0 : v16.cell? ⟨w.heap.size, 0, none⟩ = some (.slice a0 n0 c0) := ((bcell bb).1 _ _ (by first | omega | (simp; done) | (simp; omega))).trans (by first | exact K0 | (simp only [World.cell?_drew]; exact K0) | (simp [go_sem]; done))
      replace K1 : v16.cell? ⟨w.heap.size, 1, none⟩ = some (.slice a0' n0' c0') := ((bcell bb).1 _ _ (by first | omega | (simp; done) | (simp; omega))).trans (by first | exact K1 | (simp only [World.cell?_drew]; exact K1) | (simp [go_sem]; done))
      replace K2 : v16.cell? ⟨w.heap.size + 1, 0, none⟩ = some (.int .i64 t1.kind) := ((bcell bb).1 _ _ (by first | omega | (simp; done) | (simp; omega))).trans (by first | exact K2 | (simp only [World.cell?_drew]; exact K2) | (simp [go_sem]; done))
      replace K3 : v16.cell? ⟨w.heap.size + 1, 1, none⟩ = some (.string t1.name) := ((bcell bb).1 _ _ (by first | omega | (simp; done) | (simp; omega))).trans (by first | exact K3 | (simp only [World.cell?_drew]; exact K3) | (simp [go_sem]; done))
      replace K4 : v16.cell? ⟨w.heap.size + 1, 2, none⟩ = some (.slice a1 t1.attrs.length c1) := ((bcell bb).1 _ _ (by first | omega | (simp; done) | (simp; omega))).trans (by first | exact K4 | (simp only [World.cell?_drew]; exact K4) | (simp [go_sem]; done))
      replace K5 : v16.cell? ⟨w.heap.size + 1, 3, none⟩ = some (.string t1.text) := ((bcell bb).1 _ _ (by first | omega | (simp; done) | (simp; omega))).trans (by first | exact K5 | (simp only [World.cell?_drew]; exact K5) | (simp [go_sem]; done))
      replace K6 : v16.cell? ⟨Bow, 0, none⟩ = some (.slice Aow R1.nodes.length Cow) := ((bcell bb).1 _ _ (by first | omega | (simp; done) | (simp; omega))).trans (by first | exact K6 | (simp only [World.cell?_drew]; exact K6) | (simp [go_sem]; done))
      replace K7 : v16.cell? ⟨Bow, 1, none⟩ = some (.slice Dow R1.opens.length Eow) := ((bcell bb).1 _ _ (by first | omega | (simp; done) | (simp; omega))).trans (by first | exact K7 | (simp only [World.cell?_drew]; exact K7) | (simp [go_sem]; done))
      replace K8 : v16.cell? ⟨v4.heap.size, 0, none⟩ = some (.slice Ax0 n0 Cx0) := ((bcell bb).1 _ _ (by first | omega | (simp; done) | (simp; omega))).trans (by first | exact K8 | (simp only [World.cell?_drew]; exact K8) | (simp [go_sem]; done))
      replace K9 : v16.cell? ⟨v4.heap.size, 1, none⟩ = some (.slice Dx0 n0' Ex0) := ((bcell bb).1 _ _ (by first | omega | (simp; done) | (simp; omega))).trans (by first | exact K9 | (simp only [World.cell?_drew]; exact K9) | (simp [go_sem]; done))
      replace K10 : v16.cell? ⟨v5.heap.size, 0, none⟩ = some (.int .i64 t1.kind) := ((bcell bb).1 _ _ (by first | omega | (simp; done) | (simp; omega))).trans (by first | exact K10 | (simp only [World.cell?_drew]; exact K10) | (simp [go_sem]; done))
      replace K11 : v16.cell? ⟨v5.heap.size, 1, none⟩ = some (.string t1.name) := ((bcell bb).1 _ _ (by first | omega | (simp; done) | (simp; omega))).trans (by first | exact K11 | (simp only [World.cell?_drew]; exact K11) | (simp [go_sem]; done))
      replace K12 : v16.cell? ⟨v5.heap.size, 2, none⟩ = some (.slice Ax1 t1.attrs.length Cx1) := ((bcell bb).1 _ _ (by first | omega | (simp; done) | (simp; omega))).trans (by first | exact K12 | (simp only [World.cell?_drew]; exact K12) | (simp [go_sem]; done))
      replace K13 : v16.cell? ⟨v5.heap.size, 3, none⟩ = some (.string t1.text) := ((bcell bb).1 _ _ (by first | omega | (simp; done) | (simp; omega))).trans (by first | exact K13 | (simp only [World.cell?_drew]; exact K13) | (simp [go_sem]; done))
      replace K14 : v16.cell? ⟨v6.heap.size, 0, none⟩ = some (.slice Aog R1.nodes.length Cog) := ((bcell bb).1 _ _ (by first | omega | (simp; done) | (simp; omega))).trans (by first | exact K14 | (simp only [World.cell?_drew]; exact K14) | (simp [go_sem]; done))
      replace K15 : v16.cell? ⟨v6.heap.size, 1, none⟩ = some (.slice Dog R1.opens.length Eog) := ((bcell bb).1 _ _ (by first | omega | (simp; done) | (simp; omega))).trans (by first | exact K15 | (simp only [World.cell?_drew]; exact K15) | (simp [go_sem]; done))
      replace cb : Below w.heap.size w v16 := by first | exact cb.trans (bb.mono cb.size) | exact cb.drew.trans (bb.mono cb.drew.size)
      clear bb
      have V9 : ∃ x : World, x = v16 := ⟨_, rfl⟩
      go_upto_region 31 with fail
      go_cut [15, 16] from 17 (fun s15 s16 wc => ∃ (B : Nat) (A A' : Option Addr) (c c' : Nat) (L : List (Nod × Hd)), s15 = .pointer (some ⟨B, 0, none⟩) ∧ s16 = .int .i64 KK ∧ (v16.heap.size ≤ B ∧ B < wc.heap.size) ∧ HasBox wc B [.slice A R1.nodes.length c, .slice A' R1.opens.length c'] 52 ∧ OwnB wc v16.heap.size wc.heap.size 74 94 3 A R1.nodes.length c A' R1.opens.length c' R1 L ∧ Below v16.heap.size v16 wc)
      case first =>
        have cbA := cb.alloc cb.size (.cells #[.slice none 0 0, .slice none 0 0] 52)
        have hS : ∀ W : World, Below v16.heap.size v16 W → (W.cell? ⟨w.heap.size, 0, none⟩ = some (.slice a0 n0 c0) ∧ W.cell? ⟨w.heap.size, 1, none⟩ = some (.slice a0' n0' c0') ∧ W.cell? ⟨w.heap.size + 1, 0, none⟩ = some (.int .i64 t1.kind) ∧ W.cell? ⟨w.heap.size + 1, 1, none⟩ = some (.string t1.name) ∧ W.cell? ⟨w.heap.size + 1, 2, none⟩ = some (.slice a1 t1.attrs.length c1) ∧ W.cell? ⟨w.heap.size + 1, 3, none⟩ = some (.string t1.text)) := fun W h => ⟨(h.cell (p := ⟨w.heap.size, 0, none⟩) (by show w.heap.size < _; omega)).trans K0, (h.cell (p := ⟨w.heap.size, 1, none⟩) (by show w.heap.size < _; omega)).trans K1, (h.cell (p := ⟨w.heap.size + 1, 0, none⟩) (by show w.heap.size + 1 < _; omega)).trans K2, (h.cell (p := ⟨w.heap.size + 1, 1, none⟩) (by show w.heap.size + 1 < _; omega)).trans K3, (h.cell (p := ⟨w.heap.size + 1, 2, none⟩) (by show w.heap.size + 1 < _; omega)).trans K4, (h.cell (p := ⟨w.heap.size + 1, 3, none⟩) (by show w.heap.size + 1 < _; omega)).trans K5⟩
        go_region_held3 (fun v : World => v.cell? ⟨w.heap.size, 0, none⟩ = some (.slice a0 n0 c0) ∧ v.cell? ⟨w.heap.size, 1, none⟩ = some (.slice a0' n0' c0') ∧ v.cell? ⟨w.heap.size + 1, 0, none⟩ = some (.int .i64 t1.kind) ∧ v.cell? ⟨w.heap.size + 1, 1, none⟩ = some (.string t1.name) ∧ v.cell? ⟨w.heap.size + 1, 2, none⟩ = some (.slice a1 t1.attrs.length c1) ∧ v.cell? ⟨w.heap.size + 1, 3, none⟩ = some (.string t1.text)) ((refine hS _ ?_; first | exact (Below.refl _ v16).drew | exact ((Below.refl _ v16).alloc (Nat.le_refl _) (.cells #[.slice none 0 0, .slice none 0 0] 52)).drew | exact v6 | exact v6.alloc v6.size (.cells #[.slice none 0 0, .slice none 0 0] 52) | exact v7 | exact v7.alloc v7.size (.cells #[.slice none 0 0, .slice none 0 0] 52) | exact v8 | exact v8.alloc v8.size _ | exact (v8.setCell (p := ⟨v16.heap.size, 0, none⟩) (Nat.le_refl _) _).setCell (p := ⟨v16.heap.size, 1, none⟩) (Nat.le_refl _) _ | exact (v8.setCell (p := ⟨w6.heap.size, 0, none⟩) v6.size _).setCell (p := ⟨w6.heap.size, 1, none⟩) v6.size _ | exact (v8.setCell (p := ⟨w7.heap.size, 0, none⟩) v7.size _).setCell (p := ⟨w7.heap.size, 1, none⟩) v7.size _))
          (first
          | (go_at_call 39
             refine (toBuilder_any ⟨l0, z0⟩ _ (by first | exact (hx0.next cb).drew | exact (hx0.next cbA).drew | exact hx0.next cb | exact hx0.next cbA) (by omega) y03 (by omega)).mono ?_
             rintro e w6 ⟨A6, c6, D6, d6, L6, rfl, o6, b6⟩
             have v6 : Below v16.heap.size v16 w6 := by first | exact (Below.refl _ v16).drew.trans b6 | exact ((Below.refl _ v16).alloc (Nat.le_refl _) (.cells #[.slice none 0 0, .slice none 0 0] 52)).drew.trans (b6.mono (by simp)) | exact b6 | exact ((Below.refl _ v16).alloc (Nat.le_refl _) (.cells #[.slice none 0 0, .slice none 0 0] 52)).trans (b6.mono (by simp))
             have cb6 := cb.trans (v6.mono cb.size)
             have cb6A := cb6.alloc cb6.size (.cells #[.slice none 0 0, .slice none 0 0] 52)
             have s6 := v6.size
             have o6A := o6.below ((Below.refl _ _).alloc (Nat.le_refl _) (.cells #[.slice none 0 0, .slice none 0 0] 52))
             (first | (have kA : HasBox w6 v16.heap.size [.slice none 0 0, .slice none 0 0] 52 := (b6.block v16.heap.size (by simp)).trans (HasBox.new v16 [.slice none 0 0, .slice none 0 0] 52)) | skip))
          | (go_at_call 22
             refine (toToken_any t1 _ (by first | exact (hx1.below cb6).more cb6.size | exact (hx1.below cb6A).more cb6A.size) e2).mono ?_
             rintro e w7 ⟨A7, c7, rfl, o7, b7⟩
             have v7 : Below v16.heap.size v16 w7 := by first | exact v6.trans (b7.mono v6.size) | exact (v6.alloc v6.size (.cells #[.slice none 0 0, .slice none 0 0] 52)).trans (b7.mono (v6.alloc v6.size (.cells #[.slice none 0 0, .slice none 0 0] 52)).size)
             have s7 := b7.size
             try simp only [World.size_alloc] at s7
             (first | (have o6' := o6.below b7) | (have o6' := o6A.below b7))
             have o6'A := o6'.below ((Below.refl _ _).alloc (Nat.le_refl _) (.cells #[.slice none 0 0, .slice none 0 0] 52))
             have o7A := o7.below ((Below.refl _ _).alloc (Nat.le_refl _) (.cells #[.slice none 0 0, .slice none 0 0] 52))
             (first | (replace kA := kA.below b7 kA.lt; have lA := kA.lt) | skip)
             (first | (have kB : HasBox w7 w6.heap.size [.slice none 0 0, .slice none 0 0] 52 := (b7.block w6.heap.size (by simp)).trans (HasBox.new w6 [.slice none 0 0, .slice none 0 0] 52)) | skip))
          | (go_at_call 53
             refine (himpl _ _ _ _ _ _ _ (by first | exact o6'.rd (by omega) | exact o6'A.rd (by simp; omega)) (by first | exact (o7.reads (Nat.le_refl _)) | exact (o7A.reads (by simp)).more (by simp))).mono ?_
             rintro e w8 ⟨A8, c8, D8, d8, L8, rfl, o8, b8⟩
             have v8 : Below v16.heap.size v16 w8 := by first | exact v7.trans (b8.mono v7.size) | exact (v7.alloc v7.size (.cells #[.slice none 0 0, .slice none 0 0] 52)).trans (b8.mono (v7.alloc v7.size (.cells #[.slice none 0 0, .slice none 0 0] 52)).size)
             have s8 := b8.size
             try simp only [World.size_alloc] at s8
             try simp only [World.size_alloc] at o8
             have t7 := v7.size
             (first | (replace kA := kA.below b8 kA.lt; have kx0 := kA.cell 0 _ rfl; have kx1 := kA.cell 1 _ rfl; have kx2 := kA.open_ 0; have kx3 := kA.open_ 1) | skip)
             (first | (replace kB := kB.below b8 kB.lt; have kx0 := kB.cell 0 _ rfl; have kx1 := kB.cell 1 _ rfl; have kx2 := kB.open_ 0; have kx3 := kB.open_ 1) | skip)
             (first | (have kC := (HasBox.new w7 [.slice none 0 0, .slice none 0 0] 52).below b8 (by simp); have kx0 := kC.cell 0 _ rfl; have kx1 := kC.cell 1 _ rfl; have kx2 := kC.open_ 0; have kx3 := kC.open_ 1) | skip)))
        all_goals (go_wp2_with fail; go_meet)
        all_goals first
          | exact ⟨v16.heap.size, A8, D8, c8, d8, L8, rfl, rfl, ⟨by omega, by simp [World.setCell]; omega⟩, (kA.put (j := 0) (.slice A8 R1.nodes.length c8)).put (j := 1) (.slice D8 R1.opens.length d8), ((o8.set (p := ⟨v16.heap.size, 0, none⟩) (by show v16.heap.size < _; omega) (.slice A8 R1.nodes.length c8)).set (p := ⟨v16.heap.size, 1, none⟩) (by show v16.heap.size < _; omega) (.slice D8 R1.opens.length d8)).wide (by omega) (by simp [World.setCell]), (v8.setCell (p := ⟨v16.heap.size, 0, none⟩) (by show _ ≤ v16.heap.size; omega) (.slice A8 R1.nodes.length c8)).setCell (p := ⟨v16.heap.size, 1, none⟩) (by show _ ≤ v16.heap.size; omega) (.slice D8 R1.opens.length d8)⟩
          | exact ⟨w6.heap.size, A8, D8, c8, d8, L8, rfl, rfl, ⟨by omega, by simp [World.setCell]; omega⟩, (kB.put (j := 0) (.slice A8 R1.nodes.length c8)).put (j := 1) (.slice D8 R1.opens.length d8), ((o8.set (p := ⟨w6.heap.size, 0, none⟩) (by show w6.heap.size < _; omega) (.slice A8 R1.nodes.length c8)).set (p := ⟨w6.heap.size, 1, none⟩) (by show w6.heap.size < _; omega) (.slice D8 R1.opens.length d8)).wide (by omega) (by simp [World.setCell]), (v8.setCell (p := ⟨w6.heap.size, 0, none⟩) (by show _ ≤ w6.heap.size; omega) (.slice A8 R1.nodes.length c8)).setCell (p := ⟨w6.heap.size, 1, none⟩) (by show _ ≤ w6.heap.size; omega) (.slice D8 R1.opens.length d8)⟩
          | exact ⟨w7.heap.size, A8, D8, c8, d8, L8, rfl, rfl, ⟨by omega, by simp [World.setCell]; omega⟩, (kC.put (j := 0) (.slice A8 R1.nodes.length c8)).put (j := 1) (.slice D8 R1.opens.length d8), ((o8.set (p := ⟨w7.heap.size, 0, none⟩) (by show w7.heap.size < _; omega) (.slice A8 R1.nodes.length c8)).set (p := ⟨w7.heap.size, 1, none⟩) (by show w7.heap.size < _; omega) (.slice D8 R1.opens.length d8)).wide (by omega) (by simp [World.setCell]), (v8.setCell (p := ⟨w7.heap.size, 0, none⟩) (by show _ ≤ w7.heap.size; omega) (.slice A8 R1.nodes.length c8)).setCell (p := ⟨w7.heap.size, 1, none⟩) (by show _ ≤ w7.heap.size; omega) (.slice D8 R1.opens.length d8)⟩
          | exact ⟨w8.heap.size, A8, D8, c8, d8, L8, rfl, rfl, ⟨by omega, by simp⟩, HasBox.new w8 [.slice A8 R1.nodes.length c8, .slice D8 R1.opens.length d8] 52, (o8.below ((Below.refl _ _).alloc (Nat.le_refl _) _)).wide (by omega) (by simp), v8.alloc v8.size _⟩
      case rest =>
      clear V9
      obtain ⟨Boh, Aoh, Doh, Coh, Eoh, Loh, rfl, rfl, ⟨moha, mohb⟩, bxoh, oh, bb⟩ := hcut
      obtain ⟨v17, rfl⟩ : ∃ x : World, x = wc := ⟨wc, rfl⟩
      have zz := bb.size
      try simp only [World.size_drew, World.size_alloc] at zz
      replace ow := ow.below bb
      replace om := om.next bb
      replace K0 : v17.cell? ⟨w.heap.size, 0, none⟩ = some (.slice a0 n0 c0) := ((bcell bb).1 _ _ (by first | omega | (simp; done) | (simp; omega))).trans (by first | exact K0 | (simp only [World.cell?_drew]; exact K0) | (simp [go_sem]; done))
      replace K1 : v17.cell? ⟨w.heap.size, 1, none⟩ = some (.slice a0' n0' c0') := ((bcell bb).1 _ _ (by first | omega | (simp; done) | (simp; omega))).trans (by first | exact K1 | (simp only [World.cell?_drew]; exact K1) | (simp [go_sem]; done))
      replace K2 : v17.cell? ⟨w.heap.size + 1, 0, none⟩ = some (.int .i64 t1.kind) := ((bcell bb).1 _ _ (by first | omega | (simp; done) | (simp; omega))).trans (by first | exact K2 | (simp only [World.cell?_drew]; exact K2) | (simp [go_sem]; done))
      replace K3 : v17.cell? ⟨w.heap.size + 1, 1, none⟩ = some (.string t1.name) := ((bcell bb).1 _ _ (by first | omega | (simp; done) | (simp; omega))).trans (by first | exact K3 | (simp only [World.cell?_drew]; exact K3) | (simp [go_sem]; done))
      replace K4 : v17.cell? ⟨w.heap.size + 1, 2, none⟩ = some (.slice a1 t1.attrs.length c1) := ((bcell bb).1 _ _ (by first | omega | (simp; done) | (simp; omega))).trans (by first | exact K4 | (simp only [World.cell?_drew]; exact K4) | (simp [go_sem]; done))
      replace K5 : v17.cell? ⟨w.heap.size + 1, 3, none⟩ = some (.string t1.text) := ((bcell bb).1 _ _ (by first | omega | (simp; done) | (simp; omega))).trans (by first | exact K5 | (simp only [World.cell?_drew]; exact K5) | (simp [go_sem]; done))
      replace K6 : v17.cell? ⟨Bow, 0, none⟩ = some (.slice Aow R1.nodes.length Cow) := ((bcell bb).1 _ _ (by first | omega | (simp; done) | (simp; omega))).trans (by first | exact K6 | (simp only [World.cell?_drew]; exact K6) | (simp [go_sem]; done))
      replace K7 : v17.cell? ⟨Bow, 1, none⟩ = some (.slice Dow R1.opens.length Eow) := ((bcell bb).1 _ _ (by first | omega | (simp; done) | (simp; omega))).trans (by first | exact K7 | (simp only [World.cell?_drew]; exact K7) | (simp [go_sem]; done))
      replace K8 : v17.cell? ⟨v4.heap.size, 0, none⟩ = some (.slice Ax0 n0 Cx0) := ((bcell bb).1 _ _ (by first | omega | (simp; done) | (simp; omega))).trans (by first | exact K8 | (simp only [World.cell?_drew]; exact K8) | (simp [go_sem]; done))
      replace K9 : v17.cell? ⟨v4.heap.size, 1, none⟩ = some (.slice Dx0 n0' Ex0) := ((bcell bb).1 _ _ (by first | omega | (simp; done) | (simp; omega))).trans (by first | exact K9 | (simp only [World.cell?_drew]; exact K9) | (simp [go_sem]; done))
      replace K10 : v17.cell? ⟨v5.heap.size, 0, none⟩ = some (.int .i64 t1.kind) := ((bcell bb).1 _ _ (by first | omega | (simp; done) | (simp; omega))).trans (by first | exact K10 | (simp only [World.cell?_drew]; exact K10) | (simp [go_sem]; done))
      replace K11 : v17.cell? ⟨v5.heap.size, 1, none⟩ = some (.string t1.name) := ((bcell bb).1 _ _ (by first | omega | (simp; done) | (simp; omega))).trans (by first | exact K11 | (simp only [World.cell?_drew]; exact K11) | (simp [go_sem]; done))
      replace K12 : v17.cell? ⟨v5.heap.size, 2, none⟩ = some (.slice Ax1 t1.attrs.length Cx1) := ((bcell bb).1 _ _ (by first | omega | (simp; done) | (simp; omega))).trans (by first | exact K12 | (simp only [World.cell?_drew]; exact K12) | (simp [go_sem]; done))
      replace K13 : v17.cell? ⟨v5.heap.size, 3, none⟩ = some (.string t1.text) := ((bcell bb).1 _ _ (by first | omega | (simp; done) | (simp; omega))).trans (by first | exact K13 | (simp only [World.cell?_drew]; exact K13) | (simp [go_sem]; done))
      replace K14 : v17.cell? ⟨v6.heap.size, 0, none⟩ = some (.slice Aog R1.nodes.length Cog) := ((bcell bb).1 _ _ (by first | omega | (simp; done) | (simp; omega))).trans (by first | exact K14 | (simp only [World.cell?_drew]; exact K14) | (simp [go_sem]; done))
      replace K15 : v17.cell? ⟨v6.heap.size, 1, none⟩ = some (.slice Dog R1.opens.length Eog) := ((bcell bb).1 _ _ (by first | omega | (simp; done) | (simp; omega))).trans (by first | exact K15 | (simp only [World.cell?_drew]; exact K15) | (simp [go_sem]; done))
      replace cb : Below w.heap.size w v17 := by first | exact cb.trans (bb.mono cb.size) | exact cb.drew.trans (bb.mono cb.drew.size)
      clear bb
      have K16 : v17.cell? ⟨Boh, 0, none⟩ = some (.slice Aoh R1.nodes.length Coh) := bxoh.cell 0 _ rfl
      have K17 : v17.cell? ⟨Boh, 1, none⟩ = some (.slice Doh R1.opens.length Eoh) := bxoh.cell 1 _ rfl
      clear bxoh
      go_wp2_with fail
      refine (eqBuilder_yes R1 _ (OwnB.rd oh (by omega)) (OwnB.rd ow (by omega)) (by omega) hr3 (by omega)).mono ?_
      rintro e v18 ⟨rfl, bb⟩
      have zz := bb.size
      try simp only [World.size_drew, World.size_alloc] at zz
      replace ow := ow.below bb
      replace oh := oh.below bb
      replace om := om.next bb
      replace K0 : v18.cell? ⟨w.heap.size, 0, none⟩ = some (.slice a0 n0 c0) := ((bcell bb).1 _ _ (by first | omega | (simp; done) | (simp; omega))).trans (by first | exact K0 | (simp only [World.cell?_drew]; exact K0) | (simp [go_sem]; done))
      replace K1 : v18.cell? ⟨w.heap.size, 1, none⟩ = some (.slice a0' n0' c0') := ((bcell bb).1 _ _ (by first | omega | (simp; done) | (simp; omega))).trans (by first | exact K1 | (simp only [World.cell?_drew]; exact K1) | (simp [go_sem]; done))
      replace K2 : v18.cell? ⟨w.heap.size + 1, 0, none⟩ = some (.int .i64 t1.kind) := ((bcell bb).1 _ _ (by first | omega | (simp; done) | (simp; omega))).trans (by first | exact K2 | (simp only [World.cell?_drew]; exact K2) | (simp [go_sem]; done))
      replace K3 : v18.cell? ⟨w.heap.size + 1, 1, none⟩ = some (.string t1.name) := ((bcell bb).1 _ _ (by first | omega | (simp; done) | (simp; omega))).trans (by first | exact K3 | (simp only [World.cell?_drew]; exact K3) | (simp [go_sem]; done))
      replace K4 : v18.cell? ⟨w.heap.size + 1, 2, none⟩ = some (.slice a1 t1.attrs.length c1) := ((bcell bb).1 _ _ (by first | omega | (simp; done) | (simp; omega))).trans (by first | exact K4 | (simp only [World.cell?_drew]; exact K4) | (simp [go_sem]; done))
      replace K5 : v18.cell? ⟨w.heap.size + 1, 3, none⟩ = some (.string t1.text) := ((bcell bb).1 _ _ (by first | omega | (simp; done) | (simp; omega))).trans (by first | exact K5 | (simp only [World.cell?_drew]; exact K5) | (simp [go_sem]; done))
      replace K6 : v18.cell? ⟨Bow, 0, none⟩ = some (.slice Aow R1.nodes.length Cow) := ((bcell bb).1 _ _ (by first | omega | (simp; done) | (simp; omega))).trans (by first | exact K6 | (simp only [World.cell?_drew]; exact K6) | (simp [go_sem]; done))
      replace K7 : v18.cell? ⟨Bow, 1, none⟩ = some (.slice Dow R1.opens.length Eow) := ((bcell bb).1 _ _ (by first | omega | (simp; done) | (simp; omega))).trans (by first | exact K7 | (simp only [World.cell?_drew]; exact K7) | (simp [go_sem]; done))
      replace K8 : v18.cell? ⟨v4.heap.size, 0, none⟩ = some (.slice Ax0 n0 Cx0) := ((bcell bb).1 _ _ (by first | omega | (simp; done) | (simp; omega))).trans (by first | exact K8 | (simp only [World.cell?_drew]; exact K8) | (simp [go_sem]; done))
      replace K9 : v18.cell? ⟨v4.heap.size, 1, none⟩ = some (.slice Dx0 n0' Ex0) := ((bcell bb).1 _ _ (by first | omega | (simp; done) | (simp; omega))).trans (by first | exact K9 | (simp only [World.cell?_drew]; exact K9) | (simp [go_sem]; done))
      replace K10 : v18.cell? ⟨v5.heap.size, 0, none⟩ = some (.int .i64 t1.kind) := ((bcell bb).1 _ _ (by first | omega | (simp; done) | (simp; omega))).trans (by first | exact K10 | (simp only [World.cell?_drew]; exact K10) | (simp [go_sem]; done))
      replace K11 : v18.cell? ⟨v5.heap.size, 1, none⟩ = some (.string t1.name) := ((bcell bb).1 _ _ (by first | omega | (simp; done) | (simp; omega))).trans (by first | exact K11 | (simp only [World.cell?_drew]; exact K11) | (simp [go_sem]; done))
      replace K12 : v18.cell? ⟨v5.heap.size, 2, none⟩ = some (.slice Ax1 t1.attrs.length Cx1) := ((bcell bb).1 _ _ (by first | omega | (simp; done) | (simp; omega))).trans (by first | exact K12 | (simp only [World.cell?_drew]; exact K12) | (simp [go_sem]; done))
      replace K13 : v18.cell? ⟨v5.heap.size, 3, none⟩ = some (.string t1.text) := ((bcell bb).1 _ _ (by first | omega | (simp; done) | (simp; omega))).trans (by first | exact K13 | (simp only [World.cell?_drew]; exact K13) | (simp [go_sem]; done))
      replace K14 : v18.cell? ⟨v6.heap.size, 0, none⟩ = some (.slice Aog R1.nodes.length Cog) := ((bcell bb).1 _ _ (by first | omega | (simp; done) | (simp; omega))).trans (by first | exact K14 | (simp only [World.cell?_drew]; exact K14) | (simp [go_sem]; done))
      replace K15 : v18.cell? ⟨v6.heap.size, 1, none⟩ = some (.slice Dog R1.opens.length Eog) := ((bcell bb).1 _ _ (by first | omega | (simp; done) | (simp; omega))).trans (by first | exact K15 | (simp only [World.cell?_drew]; exact K15) | (simp [go_sem]; done))
      replace K16 : v18.cell? ⟨Boh, 0, none⟩ = some (.slice Aoh R1.nodes.length Coh) := ((bcell bb).1 _ _ (by first | omega | (simp; done) | (simp; omega))).trans (by first | exact K16 | (simp only [World.cell?_drew]; exact K16) | (simp [go_sem]; done))
      replace K17 : v18.cell? ⟨Boh, 1, none⟩ = some (.slice Doh R1.opens.length Eoh) := ((bcell bb).1 _ _ (by first | omega | (simp; done) | (simp; omega))).trans (by first | exact K17 | (simp only [World.cell?_drew]; exact K17) | (simp [go_sem]; done))
      replace cb : Below w.heap.size w v18 := by first | exact cb.trans (bb.mono cb.size) | exact cb.drew.trans (bb.mono cb.drew.size)
      clear bb
      go_wp2_with fail
      refine (heldBuilder_any _ om (by omega) (by omega) (by omega) (by omega)).mono ?_
      rintro e v19 ⟨rfl, bb⟩
      have zz := bb.size
      try simp only [World.size_drew, World.size_alloc] at zz
      replace ow := ow.below bb
      replace oh := oh.below bb
      replace om := om.next bb
      replace K0 : v19.cell? ⟨w.heap.size, 0, none⟩ = some (.slice a0 n0 c0) := ((bcell bb).1 _ _ (by first | omega | (simp; done) | (simp; omega))).trans (by first | exact K0 | (simp only [World.cell?_drew]; exact K0) | (simp [go_sem]; done))
      replace K1 : v19.cell? ⟨w.heap.size, 1, none⟩ = some (.slice a0' n0' c0') := ((bcell bb).1 _ _ (by first | omega | (simp; done) | (simp; omega))).trans (by first | exact K1 | (simp only [World.cell?_drew]; exact K1) | (simp [go_sem]; done))
      replace K2 : v19.cell? ⟨w.heap.size + 1, 0, none⟩ = some (.int .i64 t1.kind) := ((bcell bb).1 _ _ (by first | omega | (simp; done) | (simp; omega))).trans (by first | exact K2 | (simp only [World.cell?_drew]; exact K2) | (simp [go_sem]; done))
      replace K3 : v19.cell? ⟨w.heap.size + 1, 1, none⟩ = some (.string t1.name) := ((bcell bb).1 _ _ (by first | omega | (simp; done) | (simp; omega))).trans (by first | exact K3 | (simp only [World.cell?_drew]; exact K3) | (simp [go_sem]; done))
      replace K4 : v19.cell? ⟨w.heap.size + 1, 2, none⟩ = some (.slice a1 t1.attrs.length c1) := ((bcell bb).1 _ _ (by first | omega | (simp; done) | (simp; omega))).trans (by first | exact K4 | (simp only [World.cell?_drew]; exact K4) | (simp [go_sem]; done))
      replace K5 : v19.cell? ⟨w.heap.size + 1, 3, none⟩ = some (.string t1.text) := ((bcell bb).1 _ _ (by first | omega | (simp; done) | (simp; omega))).trans (by first | exact K5 | (simp only [World.cell?_drew]; exact K5) | (simp [go_sem]; done))
      replace K6 : v19.cell? ⟨Bow, 0, none⟩ = some (.slice Aow R1.nodes.length Cow) := ((bcell bb).1 _ _ (by first | omega | (simp; done) | (simp; omega))).trans (by first | exact K6 | (simp only [World.cell?_drew]; exact K6) | (simp [go_sem]; done))
      replace K7 : v19.cell? ⟨Bow, 1, none⟩ = some (.slice Dow R1.opens.length Eow) := ((bcell bb).1 _ _ (by first | omega | (simp; done) | (simp; omega))).trans (by first | exact K7 | (simp only [World.cell?_drew]; exact K7) | (simp [go_sem]; done))
      replace K8 : v19.cell? ⟨v4.heap.size, 0, none⟩ = some (.slice Ax0 n0 Cx0) := ((bcell bb).1 _ _ (by first | omega | (simp; done) | (simp; omega))).trans (by first | exact K8 | (simp only [World.cell?_drew]; exact K8) | (simp [go_sem]; done))
      replace K9 : v19.cell? ⟨v4.heap.size, 1, none⟩ = some (.slice Dx0 n0' Ex0) := ((bcell bb).1 _ _ (by first | omega | (simp; done) | (simp; omega))).trans (by first | exact K9 | (simp only [World.cell?_drew]; exact K9) | (simp [go_sem]; done))
      replace K10 : v19.cell? ⟨v5.heap.size, 0, none⟩ = some (.int .i64 t1.kind) := ((bcell bb).1 _ _ (by first | omega | (simp; done) | (simp; omega))).trans (by first | exact K10 | (simp only [World.cell?_drew]; exact K10) | (simp [go_sem]; done))
      replace K11 : v19.cell? ⟨v5.heap.size, 1, none⟩ = some (.string t1.name) := ((bcell bb).1 _ _ (by first | omega | (simp; done) | (simp; omega))).trans (by first | exact K11 | (simp only [World.cell?_drew]; exact K11) | (simp [go_sem]; done))
      replace K12 : v19.cell? ⟨v5.heap.size, 2, none⟩ = some (.slice Ax1 t1.attrs.length Cx1) := ((bcell bb).1 _ _ (by first | omega | (simp; done) | (simp; omega))).trans (by first | exact K12 | (simp only [World.cell?_drew]; exact K12) | (simp [go_sem]; done))
      replace K13 : v19.cell? ⟨v5.heap.size, 3, none⟩ = some (.string t1.text) := ((bcell bb).1 _ _ (by first | omega | (simp; done) | (simp; omega))).trans (by first | exact K13 | (simp only [World.cell?_drew]; exact K13) | (simp [go_sem]; done))
      replace K14 : v19.cell? ⟨v6.heap.size, 0, none⟩ = some (.slice Aog R1.nodes.length Cog) := ((bcell bb).1 _ _ (by first | omega | (simp; done) | (simp; omega))).trans (by first | exact K14 | (simp only [World.cell?_drew]; exact K14) | (simp [go_sem]; done))
      replace K15 : v19.cell? ⟨v6.heap.size, 1, none⟩ = some (.slice Dog R1.opens.length Eog) := ((bcell bb).1 _ _ (by first | omega | (simp; done) | (simp; omega))).trans (by first | exact K15 | (simp only [World.cell?_drew]; exact K15) | (simp [go_sem]; done))
      replace K16 : v19.cell? ⟨Boh, 0, none⟩ = some (.slice Aoh R1.nodes.length Coh) := ((bcell bb).1 _ _ (by first | omega | (simp; done) | (simp; omega))).trans (by first | exact K16 | (simp only [World.cell?_drew]; exact K16) | (simp [go_sem]; done))
      replace K17 : v19.cell? ⟨Boh, 1, none⟩ = some (.slice Doh R1.opens.length Eoh) := ((bcell bb).1 _ _ (by first | omega | (simp; done) | (simp; omega))).trans (by first | exact K17 | (simp only [World.cell?_drew]; exact K17) | (simp [go_sem]; done))
      replace cb : Below w.heap.size w v19 := by first | exact cb.trans (bb.mono cb.size) | exact cb.drew.trans (bb.mono cb.drew.size)
      clear bb
      go_wp2
      go_ret
      exact ⟨rfl, cb⟩

end Go.Proofs.Ytflcknknkekkfaa
