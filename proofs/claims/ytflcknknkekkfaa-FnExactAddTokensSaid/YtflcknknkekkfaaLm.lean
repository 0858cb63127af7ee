/-
  The walk of the generated law of the function AddTokens. No condition.
-/
import Derived.Test.YtflcknknkekkfaaLn
import Derived.Test.YtflcknknkekkfaaLh
import Derived.Deep.RegionHeld3
namespace Go.Proofs.Ytflcknknkekkfaa
set_option linter.unusedVariables false
set_option linter.unusedSimpArgs false
set_option maxRecDepth 100000
open Go.ChangeShapes Go.WideShapes Go.ChangeAt Go.RowKit Go.Deep


set_option maxHeartbeats 2000000 in
theorem fnExactAddTokens_walk (w : World) (a0 : Option Addr) (n0 c0 : Nat) (l0 : List Nod) (a0' : Option Addr) (n0' c0' : Nat) (z0 : List Int) (g0 : ArgB w a0 n0 l0 a0' n0' z0) (a1 : Option Addr) (n1 c1 : Nat) (l1 : List Tok) (w1 : n1 ≤ maxLen) (hx1 : ReadsN tokN w w.heap.size a1 n1 l1) (y1 : ∀ a ∈ l1, okTok a) :
    Calls Try.prog 14 #[.agg #[.slice a0 n0 c0, .slice a0' n0' c0'], .slice a1 n1 c1] w fun e w' => e = .returned (.bool true) ∧ Below w.heap.size w w' := by
  unfold maxLen at w1
  obtain ⟨q01, q02, q03, q04, q05, q06, q07⟩ := g0
  have hx0 : ReadsB w w.heap.size a0 n0 a0' n0' ⟨l0, z0⟩ := ⟨q02, q06⟩
  clear q02 q06 q04
  have cb : Below w.heap.size w w := Below.refl _ _
  have K0 : (w.alloc (.cells #[.slice a0 n0 c0, .slice a0' n0' c0'] 59)).cell? ⟨w.heap.size, 0, none⟩ = some (.slice a0 n0 c0) := by simp [go_sem]
  have K1 : (w.alloc (.cells #[.slice a0 n0 c0, .slice a0' n0' c0'] 59)).cell? ⟨w.heap.size, 1, none⟩ = some (.slice a0' n0' c0') := by simp [go_sem]
  replace cb : Below w.heap.size w (w.alloc (.cells #[.slice a0 n0 c0, .slice a0' n0' c0'] 59)) := cb.alloc cb.size (.cells #[.slice a0 n0 c0, .slice a0' n0' c0'] 59)
  have zz : w.heap.size < (w.alloc (.cells #[.slice a0 n0 c0, .slice a0' n0' c0'] 59)).heap.size := by simp
  go_enter Try.func14, Try.ntmps14
  go_wp2_with fail
  refine (szBuilder_any ⟨l0, z0⟩ _ (hx0.next cb) q01 q03 q05 _ (by omega) (by omega)).mono ?_
  rintro e v1 ⟨r1, rfl, h1a, h1b, h1c, bb⟩
  have zz := bb.size
  try simp only [World.size_drew, World.size_alloc] at zz
  replace K0 : v1.cell? ⟨w.heap.size, 0, none⟩ = some (.slice a0 n0 c0) := ((bcell bb).1 _ _ (by first | omega | (simp; done) | (simp; omega))).trans (by first | exact K0 | (simp only [World.cell?_drew]; exact K0) | (simp [go_sem]; done))
  replace K1 : v1.cell? ⟨w.heap.size, 1, none⟩ = some (.slice a0' n0' c0') := ((bcell bb).1 _ _ (by first | omega | (simp; done) | (simp; omega))).trans (by first | exact K1 | (simp only [World.cell?_drew]; exact K1) | (simp [go_sem]; done))
  replace cb : Below w.heap.size w v1 := by first | exact cb.trans (bb.mono cb.size) | exact cb.drew.trans (bb.mono cb.drew.size)
  clear bb
  rcases Int.lt_or_le r1 0 with hneg | hpos
  · go_wp2
    go_ret
    exact ⟨rfl, cb⟩
  · have h1d := h1c hpos
    clear h1c
    have nb0 : 0 ≤ bldSz ⟨l0, z0⟩ := by have := nodsSz_nonneg l0; unfold bldSz; simp only; omega
    obtain ⟨y01, y02, y03, y04⟩ := bld_bounds hx0 (by omega)
    have hlen0 := hx0.len
    have hok : OkB ⟨l0, z0⟩ := ⟨by rw [hlen0.1]; omega, by rw [hlen0.2]; omega, y03, q07⟩
    have hz0 := totN_nods l0
    have hbl0 : (l0.length : Int) = n0 := by have := hlen0.1; simp only at this; omega
    have nt1 := toksSz_nonneg l1
    go_wp2_with fail
    refine (szTokenS_any _ (hx1.next cb) (by omega) y1 _ (by omega) (by omega)).mono ?_
    rintro e v2 ⟨r2, rfl, h2a, h2b, h2c, bb⟩
    have zz := bb.size
    try simp only [World.size_drew, World.size_alloc] at zz
    replace K0 : v2.cell? ⟨w.heap.size, 0, none⟩ = some (.slice a0 n0 c0) := ((bcell bb).1 _ _ (by first | omega | (simp; done) | (simp; omega))).trans (by first | exact K0 | (simp only [World.cell?_drew]; exact K0) | (simp [go_sem]; done))
    replace K1 : v2.cell? ⟨w.heap.size, 1, none⟩ = some (.slice a0' n0' c0') := ((bcell bb).1 _ _ (by first | omega | (simp; done) | (simp; omega))).trans (by first | exact K1 | (simp only [World.cell?_drew]; exact K1) | (simp [go_sem]; done))
    replace cb : Below w.heap.size w v2 := by first | exact cb.trans (bb.mono cb.size) | exact cb.drew.trans (bb.mono cb.drew.size)
    clear bb
    rcases Int.lt_or_le r2 0 with hneg | hpos
    · go_wp2
      go_ret
      exact ⟨rfl, cb⟩
    · have h2d := h2c hpos
      clear h2c
      have e2 : ∀ a ∈ l1, a.attrs.length ≤ 1073741824 := fun a ha => by have h4 := toksSz_mem ha; have h5 := attrs_le_tokSz a; omega
      have hlen1 := hx1.len
      have ht1 := totN_toks l1
      have hg1 := addsL_grow l1 ⟨l0, z0⟩
      simp only at hg1
      have hR : OkB (addsL ⟨l0, z0⟩ l1) := hok.adds l1 e2
      have hspec := fun (W : World) (A A' B : Option Addr) (C C' D : Nat) (h : ReadsB W W.heap.size A n0 A' n0' ⟨l0, z0⟩) (h2 : ReadsN tokN W W.heap.size B n1 l1) => addTokens_spec (c := C) (c' := C') (d := D) W h hok h2 (by omega) e2
      have himpl := fun (W : World) (A A' B : Option Addr) (C C' D : Nat) (h : ReadsB W W.heap.size A n0 A' n0' ⟨l0, z0⟩) (h2 : ReadsN tokN W W.heap.size B n1 l1) => addTokens_impl (c := C) (c' := C') (d := D) W h hok h2 (by omega) e2
      generalize addsL ⟨l0, z0⟩ l1 = R1 at hg1 hR hspec himpl
      have hr1 : R1.nodes.length ≤ 2097152 := by omega
      have hr2 := hR.opens
      have hr3 := hR.attrs
      have hb9 : bldSz ⟨l0, z0⟩ = l0.length + nodsSz l0 + z0.length := rfl
      have hr4 : totN (R1.nodes.map nodN.num) ≤ 16777216 := by omega
      have tn := totN_nonneg (R1.nodes.map nodN.num)
      have hw4 : totN (l0.map nodN.num) ≤ 16777216 := by omega
      have hw5 : totN (l1.map tokN.num) ≤ 16777216 := by omega
      clear hok hR hg1 hz0 ht1
      go_wp2_with fail
      refine (toBuilder_any ⟨l0, z0⟩ _ (hx0.next cb) (by omega) y03 (by omega)).mono ?_
      rintro e v3 ⟨Aowb, Cowb, Dowb, Eowb, Lowb, rfl, owb, bb⟩
      have zz := bb.size
      try simp only [World.size_drew, World.size_alloc] at zz
      replace K0 : v3.cell? ⟨w.heap.size, 0, none⟩ = some (.slice a0 n0 c0) := ((bcell bb).1 _ _ (by first | omega | (simp; done) | (simp; omega))).trans (by first | exact K0 | (simp only [World.cell?_drew]; exact K0) | (simp [go_sem]; done))
      replace K1 : v3.cell? ⟨w.heap.size, 1, none⟩ = some (.slice a0' n0' c0') := ((bcell bb).1 _ _ (by first | omega | (simp; done) | (simp; omega))).trans (by first | exact K1 | (simp only [World.cell?_drew]; exact K1) | (simp [go_sem]; done))
      replace cb : Below w.heap.size w v3 := by first | exact cb.trans (bb.mono cb.size) | exact cb.drew.trans (bb.mono cb.drew.size)
      clear bb
      go_wp2_with fail
      refine (toTokenS_any _ (hx1.next cb) (by omega) e2).mono ?_
      rintro e v4 ⟨Aowt, Cowt, Lowt, rfl, howt, owt, bb⟩
      have zz := bb.size
      try simp only [World.size_drew, World.size_alloc] at zz
      replace owb := owb.below bb
      replace K0 : v4.cell? ⟨w.heap.size, 0, none⟩ = some (.slice a0 n0 c0) := ((bcell bb).1 _ _ (by first | omega | (simp; done) | (simp; omega))).trans (by first | exact K0 | (simp only [World.cell?_drew]; exact K0) | (simp [go_sem]; done))
      replace K1 : v4.cell? ⟨w.heap.size, 1, none⟩ = some (.slice a0' n0' c0') := ((bcell bb).1 _ _ (by first | omega | (simp; done) | (simp; omega))).trans (by first | exact K1 | (simp only [World.cell?_drew]; exact K1) | (simp [go_sem]; done))
      replace cb : Below w.heap.size w v4 := by first | exact cb.trans (bb.mono cb.size) | exact cb.drew.trans (bb.mono cb.drew.size)
      clear bb
      go_wp2_with fail
      refine (hspec _ _ _ _ _ _ _ (OwnB.rd owb (by omega)) (OwnN.rd owt howt (by omega))).mono ?_
      rintro e v5 ⟨Aow, Cow, Dow, Eow, Low, rfl, ow, bb⟩
      have zz := bb.size
      try simp only [World.size_drew, World.size_alloc] at zz
      replace owb := owb.below bb
      replace owt := owt.below bb
      replace K0 : v5.cell? ⟨w.heap.size, 0, none⟩ = some (.slice a0 n0 c0) := ((bcell bb).1 _ _ (by first | omega | (simp; done) | (simp; omega))).trans (by first | exact K0 | (simp only [World.cell?_drew]; exact K0) | (simp [go_sem]; done))
      replace K1 : v5.cell? ⟨w.heap.size, 1, none⟩ = some (.slice a0' n0' c0') := ((bcell bb).1 _ _ (by first | omega | (simp; done) | (simp; omega))).trans (by first | exact K1 | (simp only [World.cell?_drew]; exact K1) | (simp [go_sem]; done))
      replace cb : Below w.heap.size w v5 := by first | exact cb.trans (bb.mono cb.size) | exact cb.drew.trans (bb.mono cb.drew.size)
      clear bb
      clear owb
      clear owt
      replace K0 : (v5.alloc (.cells #[.slice Aow R1.nodes.length Cow, .slice Dow R1.opens.length Eow] 52)).cell? ⟨w.heap.size, 0, none⟩ = some (.slice a0 n0 c0) := (World.cell?_alloc_some _ _ _ (by rw [K0]; rfl)).trans K0
      replace K1 : (v5.alloc (.cells #[.slice Aow R1.nodes.length Cow, .slice Dow R1.opens.length Eow] 52)).cell? ⟨w.heap.size, 1, none⟩ = some (.slice a0' n0' c0') := (World.cell?_alloc_some _ _ _ (by rw [K1]; rfl)).trans K1
      have K2 : (v5.alloc (.cells #[.slice Aow R1.nodes.length Cow, .slice Dow R1.opens.length Eow] 52)).cell? ⟨v5.heap.size, 0, none⟩ = some (.slice Aow R1.nodes.length Cow) := by simp [go_sem]
      have K3 : (v5.alloc (.cells #[.slice Aow R1.nodes.length Cow, .slice Dow R1.opens.length Eow] 52)).cell? ⟨v5.heap.size, 1, none⟩ = some (.slice Dow R1.opens.length Eow) := by simp [go_sem]
      replace ow := ow.below ((Below.refl _ _).alloc (Nat.le_refl _) (.cells #[.slice Aow R1.nodes.length Cow, .slice Dow R1.opens.length Eow] 52))
      replace cb : Below w.heap.size w (v5.alloc (.cells #[.slice Aow R1.nodes.length Cow, .slice Dow R1.opens.length Eow] 52)) := cb.alloc cb.size (.cells #[.slice Aow R1.nodes.length Cow, .slice Dow R1.opens.length Eow] 52)
      have zz : v5.heap.size < (v5.alloc (.cells #[.slice Aow R1.nodes.length Cow, .slice Dow R1.opens.length Eow] 52)).heap.size := by simp
      go_wp2_with fail
      refine (toBuilder_any ⟨l0, z0⟩ _ (hx0.next cb) (by omega) y03 (by omega)).mono ?_
      rintro e v6 ⟨Ax0, Cx0, Dx0, Ex0, Lx0, rfl, x0, bb⟩
      have zz := bb.size
      try simp only [World.size_drew, World.size_alloc] at zz
      replace ow := ow.below bb
      replace K0 : v6.cell? ⟨w.heap.size, 0, none⟩ = some (.slice a0 n0 c0) := ((bcell bb).1 _ _ (by first | omega | (simp; done) | (simp; omega))).trans (by first | exact K0 | (simp only [World.cell?_drew]; exact K0) | (simp [go_sem]; done))
      replace K1 : v6.cell? ⟨w.heap.size, 1, none⟩ = some (.slice a0' n0' c0') := ((bcell bb).1 _ _ (by first | omega | (simp; done) | (simp; omega))).trans (by first | exact K1 | (simp only [World.cell?_drew]; exact K1) | (simp [go_sem]; done))
      replace K2 : v6.cell? ⟨v5.heap.size, 0, none⟩ = some (.slice Aow R1.nodes.length Cow) := ((bcell bb).1 _ _ (by first | omega | (simp; done) | (simp; omega))).trans (by first | exact K2 | (simp only [World.cell?_drew]; exact K2) | (simp [go_sem]; done))
      replace K3 : v6.cell? ⟨v5.heap.size, 1, none⟩ = some (.slice Dow R1.opens.length Eow) := ((bcell bb).1 _ _ (by first | omega | (simp; done) | (simp; omega))).trans (by first | exact K3 | (simp only [World.cell?_drew]; exact K3) | (simp [go_sem]; done))
      replace cb : Below w.heap.size w v6 := by first | exact cb.trans (bb.mono cb.size) | exact cb.drew.trans (bb.mono cb.drew.size)
      clear bb
      replace K0 : (v6.alloc (.cells #[.slice Ax0 n0 Cx0, .slice Dx0 n0' Ex0] 52)).cell? ⟨w.heap.size, 0, none⟩ = some (.slice a0 n0 c0) := (World.cell?_alloc_some _ _ _ (by rw [K0]; rfl)).trans K0
      replace K1 : (v6.alloc (.cells #[.slice Ax0 n0 Cx0, .slice Dx0 n0' Ex0] 52)).cell? ⟨w.heap.size, 1, none⟩ = some (.slice a0' n0' c0') := (World.cell?_alloc_some _ _ _ (by rw [K1]; rfl)).trans K1
      replace K2 : (v6.alloc (.cells #[.slice Ax0 n0 Cx0, .slice Dx0 n0' Ex0] 52)).cell? ⟨v5.heap.size, 0, none⟩ = some (.slice Aow R1.nodes.length Cow) := (World.cell?_alloc_some _ _ _ (by rw [K2]; rfl)).trans K2
      replace K3 : (v6.alloc (.cells #[.slice Ax0 n0 Cx0, .slice Dx0 n0' Ex0] 52)).cell? ⟨v5.heap.size, 1, none⟩ = some (.slice Dow R1.opens.length Eow) := (World.cell?_alloc_some _ _ _ (by rw [K3]; rfl)).trans K3
      have K4 : (v6.alloc (.cells #[.slice Ax0 n0 Cx0, .slice Dx0 n0' Ex0] 52)).cell? ⟨v6.heap.size, 0, none⟩ = some (.slice Ax0 n0 Cx0) := by simp [go_sem]
      have K5 : (v6.alloc (.cells #[.slice Ax0 n0 Cx0, .slice Dx0 n0' Ex0] 52)).cell? ⟨v6.heap.size, 1, none⟩ = some (.slice Dx0 n0' Ex0) := by simp [go_sem]
      replace ow := ow.below ((Below.refl _ _).alloc (Nat.le_refl _) (.cells #[.slice Ax0 n0 Cx0, .slice Dx0 n0' Ex0] 52))
      replace x0 := x0.below ((Below.refl _ _).alloc (Nat.le_refl _) (.cells #[.slice Ax0 n0 Cx0, .slice Dx0 n0' Ex0] 52))
      replace cb : Below w.heap.size w (v6.alloc (.cells #[.slice Ax0 n0 Cx0, .slice Dx0 n0' Ex0] 52)) := cb.alloc cb.size (.cells #[.slice Ax0 n0 Cx0, .slice Dx0 n0' Ex0] 52)
      have zz : v6.heap.size < (v6.alloc (.cells #[.slice Ax0 n0 Cx0, .slice Dx0 n0' Ex0] 52)).heap.size := by simp
      go_wp2_with fail
      refine (toTokenS_any _ (hx1.next cb) (by omega) e2).mono ?_
      rintro e v7 ⟨Ax1, Cx1, Lx1, rfl, hx1_, x1, bb⟩
      have zz := bb.size
      try simp only [World.size_drew, World.size_alloc] at zz
      replace ow := ow.below bb
      replace x0 := x0.below bb
      replace K0 : v7.cell? ⟨w.heap.size, 0, none⟩ = some (.slice a0 n0 c0) := ((bcell bb).1 _ _ (by first | omega | (simp; done) | (simp; omega))).trans (by first | exact K0 | (simp only [World.cell?_drew]; exact K0) | (simp [go_sem]; done))
      replace K1 : v7.cell? ⟨w.heap.size, 1, none⟩ = some (.slice a0' n0' c0') := ((bcell bb).1 _ _ (by first | omega | (simp; done) | (simp; omega))).trans (by first | exact K1 | (simp only [World.cell?_drew]; exact K1) | (simp [go_sem]; done))
      replace K2 : v7.cell? ⟨v5.heap.size, 0, none⟩ = some (.slice Aow R1.nodes.length Cow) := ((bcell bb).1 _ _ (by first | omega | (simp; done) | (simp; omega))).trans (by first | exact K2 | (simp only [World.cell?_drew]; exact K2) | (simp [go_sem]; done))
      replace K3 : v7.cell? ⟨v5.heap.size, 1, none⟩ = some (.slice Dow R1.opens.length Eow) := ((bcell bb).1 _ _ (by first | omega | (simp; done) | (simp; omega))).trans (by first | exact K3 | (simp only [World.cell?_drew]; exact K3) | (simp [go_sem]; done))
      replace K4 : v7.cell? ⟨v6.heap.size, 0, none⟩ = some (.slice Ax0 n0 Cx0) := ((bcell bb).1 _ _ (by first | omega | (simp; done) | (simp; omega))).trans (by first | exact K4 | (simp only [World.cell?_drew]; exact K4) | (simp [go_sem]; done))
      replace K5 : v7.cell? ⟨v6.heap.size, 1, none⟩ = some (.slice Dx0 n0' Ex0) := ((bcell bb).1 _ _ (by first | omega | (simp; done) | (simp; omega))).trans (by first | exact K5 | (simp only [World.cell?_drew]; exact K5) | (simp [go_sem]; done))
      replace cb : Below w.heap.size w v7 := by first | exact cb.trans (bb.mono cb.size) | exact cb.drew.trans (bb.mono cb.drew.size)
      clear bb
      go_wp2_with fail
      refine (himpl _ _ _ _ _ _ _ (OwnB.rd x0 (by omega)) (OwnN.rd x1 hx1_ (by omega))).mono ?_
      rintro e v8 ⟨Aog, Cog, Dog, Eog, Log, rfl, og, bb⟩
      have zz := bb.size
      try simp only [World.size_drew, World.size_alloc] at zz
      replace ow := ow.below bb
      replace x0 := x0.below bb
      replace x1 := x1.below bb
      replace K0 : v8.cell? ⟨w.heap.size, 0, none⟩ = some (.slice a0 n0 c0) := ((bcell bb).1 _ _ (by first | omega | (simp; done) | (simp; omega))).trans (by first | exact K0 | (simp only [World.cell?_drew]; exact K0) | (simp [go_sem]; done))
      replace K1 : v8.cell? ⟨w.heap.size, 1, none⟩ = some (.slice a0' n0' c0') := ((bcell bb).1 _ _ (by first | omega | (simp; done) | (simp; omega))).trans (by first | exact K1 | (simp only [World.cell?_drew]; exact K1) | (simp [go_sem]; done))
      replace K2 : v8.cell? ⟨v5.heap.size, 0, none⟩ = some (.slice Aow R1.nodes.length Cow) := ((bcell bb).1 _ _ (by first | omega | (simp; done) | (simp; omega))).trans (by first | exact K2 | (simp only [World.cell?_drew]; exact K2) | (simp [go_sem]; done))
      replace K3 : v8.cell? ⟨v5.heap.size, 1, none⟩ = some (.slice Dow R1.opens.length Eow) := ((bcell bb).1 _ _ (by first | omega | (simp; done) | (simp; omega))).trans (by first | exact K3 | (simp only [World.cell?_drew]; exact K3) | (simp [go_sem]; done))
      replace K4 : v8.cell? ⟨v6.heap.size, 0, none⟩ = some (.slice Ax0 n0 Cx0) := ((bcell bb).1 _ _ (by first | omega | (simp; done) | (simp; omega))).trans (by first | exact K4 | (simp only [World.cell?_drew]; exact K4) | (simp [go_sem]; done))
      replace K5 : v8.cell? ⟨v6.heap.size, 1, none⟩ = some (.slice Dx0 n0' Ex0) := ((bcell bb).1 _ _ (by first | omega | (simp; done) | (simp; omega))).trans (by first | exact K5 | (simp only [World.cell?_drew]; exact K5) | (simp [go_sem]; done))
      replace cb : Below w.heap.size w v8 := by first | exact cb.trans (bb.mono cb.size) | exact cb.drew.trans (bb.mono cb.drew.size)
      clear bb
      replace K0 : (v8.alloc (.cells #[.slice Aog R1.nodes.length Cog, .slice Dog R1.opens.length Eog] 52)).cell? ⟨w.heap.size, 0, none⟩ = some (.slice a0 n0 c0) := (World.cell?_alloc_some _ _ _ (by rw [K0]; rfl)).trans K0
      replace K1 : (v8.alloc (.cells #[.slice Aog R1.nodes.length Cog, .slice Dog R1.opens.length Eog] 52)).cell? ⟨w.heap.size, 1, none⟩ = some (.slice a0' n0' c0') := (World.cell?_alloc_some _ _ _ (by rw [K1]; rfl)).trans K1
      replace K2 : (v8.alloc (.cells #[.slice Aog R1.nodes.length Cog, .slice Dog R1.opens.length Eog] 52)).cell? ⟨v5.heap.size, 0, none⟩ = some (.slice Aow R1.nodes.length Cow) := (World.cell?_alloc_some _ _ _ (by rw [K2]; rfl)).trans K2
      replace K3 : (v8.alloc (.cells #[.slice Aog R1.nodes.length Cog, .slice Dog R1.opens.length Eog] 52)).cell? ⟨v5.heap.size, 1, none⟩ = some (.slice Dow R1.opens.length Eow) := (World.cell?_alloc_some _ _ _ (by rw [K3]; rfl)).trans K3
      replace K4 : (v8.alloc (.cells #[.slice Aog R1.nodes.length Cog, .slice Dog R1.opens.length Eog] 52)).cell? ⟨v6.heap.size, 0, none⟩ = some (.slice Ax0 n0 Cx0) := (World.cell?_alloc_some _ _ _ (by rw [K4]; rfl)).trans K4
      replace K5 : (v8.alloc (.cells #[.slice Aog R1.nodes.length Cog, .slice Dog R1.opens.length Eog] 52)).cell? ⟨v6.heap.size, 1, none⟩ = some (.slice Dx0 n0' Ex0) := (World.cell?_alloc_some _ _ _ (by rw [K5]; rfl)).trans K5
      have K6 : (v8.alloc (.cells #[.slice Aog R1.nodes.length Cog, .slice Dog R1.opens.length Eog] 52)).cell? ⟨v8.heap.size, 0, none⟩ = some (.slice Aog R1.nodes.length Cog) := by simp [go_sem]
      have K7 : (v8.alloc (.cells #[.slice Aog R1.nodes.length Cog, .slice Dog R1.opens.length Eog] 52)).cell? ⟨v8.heap.size, 1, none⟩ = some (.slice Dog R1.opens.length Eog) := by simp [go_sem]
      replace ow := ow.below ((Below.refl _ _).alloc (Nat.le_refl _) (.cells #[.slice Aog R1.nodes.length Cog, .slice Dog R1.opens.length Eog] 52))
      replace x0 := x0.below ((Below.refl _ _).alloc (Nat.le_refl _) (.cells #[.slice Aog R1.nodes.length Cog, .slice Dog R1.opens.length Eog] 52))
      replace x1 := x1.below ((Below.refl _ _).alloc (Nat.le_refl _) (.cells #[.slice Aog R1.nodes.length Cog, .slice Dog R1.opens.length Eog] 52))
      replace og := og.below ((Below.refl _ _).alloc (Nat.le_refl _) (.cells #[.slice Aog R1.nodes.length Cog, .slice Dog R1.opens.length Eog] 52))
      replace cb : Below w.heap.size w (v8.alloc (.cells #[.slice Aog R1.nodes.length Cog, .slice Dog R1.opens.length Eog] 52)) := cb.alloc cb.size (.cells #[.slice Aog R1.nodes.length Cog, .slice Dog R1.opens.length Eog] 52)
      have zz : v8.heap.size < (v8.alloc (.cells #[.slice Aog R1.nodes.length Cog, .slice Dog R1.opens.length Eog] 52)).heap.size := by simp
      go_wp2_with fail
      refine (eqBuilder_yes R1 _ (OwnB.rd og (by omega)) (OwnB.rd ow (by omega)) (by omega) hr3 (by omega)).mono ?_
      rintro e v9 ⟨rfl, bb⟩
      have zz := bb.size
      try simp only [World.size_drew, World.size_alloc] at zz
      replace ow := ow.below bb
      replace x0 := x0.below bb
      replace x1 := x1.below bb
      replace og := og.below bb
      replace K0 : v9.cell? ⟨w.heap.size, 0, none⟩ = some (.slice a0 n0 c0) := ((bcell bb).1 _ _ (by first | omega | (simp; done) | (simp; omega))).trans (by first | exact K0 | (simp only [World.cell?_drew]; exact K0) | (simp [go_sem]; done))
      replace K1 : v9.cell? ⟨w.heap.size, 1, none⟩ = some (.slice a0' n0' c0') := ((bcell bb).1 _ _ (by first | omega | (simp; done) | (simp; omega))).trans (by first | exact K1 | (simp only [World.cell?_drew]; exact K1) | (simp [go_sem]; done))
      replace K2 : v9.cell? ⟨v5.heap.size, 0, none⟩ = some (.slice Aow R1.nodes.length Cow) := ((bcell bb).1 _ _ (by first | omega | (simp; done) | (simp; omega))).trans (by first | exact K2 | (simp only [World.cell?_drew]; exact K2) | (simp [go_sem]; done))
      replace K3 : v9.cell? ⟨v5.heap.size, 1, none⟩ = some (.slice Dow R1.opens.length Eow) := ((bcell bb).1 _ _ (by first | omega | (simp; done) | (simp; omega))).trans (by first | exact K3 | (simp only [World.cell?_drew]; exact K3) | (simp [go_sem]; done))
      replace K4 : v9.cell? ⟨v6.heap.size, 0, none⟩ = some (.slice Ax0 n0 Cx0) := ((bcell bb).1 _ _ (by first | omega | (simp; done) | (simp; omega))).trans (by first | exact K4 | (simp only [World.cell?_drew]; exact K4) | (simp [go_sem]; done))
      replace K5 : v9.cell? ⟨v6.heap.size, 1, none⟩ = some (.slice Dx0 n0' Ex0) := ((bcell bb).1 _ _ (by first | omega | (simp; done) | (simp; omega))).trans (by first | exact K5 | (simp only [World.cell?_drew]; exact K5) | (simp [go_sem]; done))
      replace K6 : v9.cell? ⟨v8.heap.size, 0, none⟩ = some (.slice Aog R1.nodes.length Cog) := ((bcell bb).1 _ _ (by first | omega | (simp; done) | (simp; omega))).trans (by first | exact K6 | (simp only [World.cell?_drew]; exact K6) | (simp [go_sem]; done))
      replace K7 : v9.cell? ⟨v8.heap.size, 1, none⟩ = some (.slice Dog R1.opens.length Eog) := ((bcell bb).1 _ _ (by first | omega | (simp; done) | (simp; omega))).trans (by first | exact K7 | (simp only [World.cell?_drew]; exact K7) | (simp [go_sem]; done))
      replace cb : Below w.heap.size w v9 := by first | exact cb.trans (bb.mono cb.size) | exact cb.drew.trans (bb.mono cb.drew.size)
      clear bb
      go_wp2_with fail
      go_region_held3 (fun v : World => v.cell? ⟨w.heap.size, 0, none⟩ = some (.slice a0 n0 c0) ∧ v.cell? ⟨w.heap.size, 1, none⟩ = some (.slice a0' n0' c0') ∧ v.cell? ⟨v5.heap.size, 0, none⟩ = some (.slice Aow R1.nodes.length Cow) ∧ v.cell? ⟨v5.heap.size, 1, none⟩ = some (.slice Dow R1.opens.length Eow) ∧ v.cell? ⟨v6.heap.size, 0, none⟩ = some (.slice Ax0 n0 Cx0) ∧ v.cell? ⟨v6.heap.size, 1, none⟩ = some (.slice Dx0 n0' Ex0) ∧ v.cell? ⟨v8.heap.size, 0, none⟩ = some (.slice Aog R1.nodes.length Cog) ∧ v.cell? ⟨v8.heap.size, 1, none⟩ = some (.slice Dog R1.opens.length Eog))
        (first
          | exact ⟨K0, K1, K2, K3, K4, K5, K6, K7⟩
          | (refine ⟨?_, ?_, ?_, ?_, ?_, ?_, ?_, ?_⟩ <;> simp only [World.cell?_drew] <;> assumption))
        (first
          | (go_at_call 39
             refine (toBuilder_any ⟨l0, z0⟩ _ (by first | exact hx0.next cb | exact (hx0.next cb).drew) (by omega) y03 (by omega)).mono ?_
             rintro e v10 ⟨Ap3, Cp3, Dp3, Ep3, Lp3, rfl, p3, bb⟩
             have zz := bb.size
             try simp only [World.size_drew, World.size_alloc] at zz
             (first | replace ow := ow.below bb | replace ow := ow.drew.below bb)
             (first | replace x0 := x0.below bb | replace x0 := x0.drew.below bb)
             (first | replace x1 := x1.below bb | replace x1 := x1.drew.below bb)
             (first | replace og := og.below bb | replace og := og.drew.below bb)
             replace K0 : v10.cell? ⟨w.heap.size, 0, none⟩ = some (.slice a0 n0 c0) := ((bcell bb).1 _ _ (by first | omega | (simp; done) | (simp; omega))).trans (by first | exact K0 | (simp only [World.cell?_drew]; exact K0) | (simp [go_sem]; done))
             replace K1 : v10.cell? ⟨w.heap.size, 1, none⟩ = some (.slice a0' n0' c0') := ((bcell bb).1 _ _ (by first | omega | (simp; done) | (simp; omega))).trans (by first | exact K1 | (simp only [World.cell?_drew]; exact K1) | (simp [go_sem]; done))
             replace K2 : v10.cell? ⟨v5.heap.size, 0, none⟩ = some (.slice Aow R1.nodes.length Cow) := ((bcell bb).1 _ _ (by first | omega | (simp; done) | (simp; omega))).trans (by first | exact K2 | (simp only [World.cell?_drew]; exact K2) | (simp [go_sem]; done))
             replace K3 : v10.cell? ⟨v5.heap.size, 1, none⟩ = some (.slice Dow R1.opens.length Eow) := ((bcell bb).1 _ _ (by first | omega | (simp; done) | (simp; omega))).trans (by first | exact K3 | (simp only [World.cell?_drew]; exact K3) | (simp [go_sem]; done))
             replace K4 : v10.cell? ⟨v6.heap.size, 0, none⟩ = some (.slice Ax0 n0 Cx0) := ((bcell bb).1 _ _ (by first | omega | (simp; done) | (simp; omega))).trans (by first | exact K4 | (simp only [World.cell?_drew]; exact K4) | (simp [go_sem]; done))
             replace K5 : v10.cell? ⟨v6.heap.size, 1, none⟩ = some (.slice Dx0 n0' Ex0) := ((bcell bb).1 _ _ (by first | omega | (simp; done) | (simp; omega))).trans (by first | exact K5 | (simp only [World.cell?_drew]; exact K5) | (simp [go_sem]; done))
             replace K6 : v10.cell? ⟨v8.heap.size, 0, none⟩ = some (.slice Aog R1.nodes.length Cog) := ((bcell bb).1 _ _ (by first | omega | (simp; done) | (simp; omega))).trans (by first | exact K6 | (simp only [World.cell?_drew]; exact K6) | (simp [go_sem]; done))
             replace K7 : v10.cell? ⟨v8.heap.size, 1, none⟩ = some (.slice Dog R1.opens.length Eog) := ((bcell bb).1 _ _ (by first | omega | (simp; done) | (simp; omega))).trans (by first | exact K7 | (simp only [World.cell?_drew]; exact K7) | (simp [go_sem]; done))
             replace cb : Below w.heap.size w v10 := by first | exact cb.trans (bb.mono cb.size) | exact cb.drew.trans (bb.mono cb.drew.size)
             clear bb)
          | (go_at_call 34
             refine (eqBuilder_yes ⟨l0, z0⟩ _ (OwnB.rd x0 (by omega)) (OwnB.rd p3 (by omega)) (by omega) y03 (by omega)).mono ?_
             rintro e v11 ⟨rfl, bb⟩
             have zz := bb.size
             try simp only [World.size_drew, World.size_alloc] at zz
             (first | replace ow := ow.below bb | replace ow := ow.drew.below bb)
             (first | replace x0 := x0.below bb | replace x0 := x0.drew.below bb)
             (first | replace x1 := x1.below bb | replace x1 := x1.drew.below bb)
             (first | replace og := og.below bb | replace og := og.drew.below bb)
             (first | replace p3 := p3.below bb | replace p3 := p3.drew.below bb)
             replace K0 : v11.cell? ⟨w.heap.size, 0, none⟩ = some (.slice a0 n0 c0) := ((bcell bb).1 _ _ (by first | omega | (simp; done) | (simp; omega))).trans (by first | exact K0 | (simp only [World.cell?_drew]; exact K0) | (simp [go_sem]; done))
             replace K1 : v11.cell? ⟨w.heap.size, 1, none⟩ = some (.slice a0' n0' c0') := ((bcell bb).1 _ _ (by first | omega | (simp; done) | (simp; omega))).trans (by first | exact K1 | (simp only [World.cell?_drew]; exact K1) | (simp [go_sem]; done))
             replace K2 : v11.cell? ⟨v5.heap.size, 0, none⟩ = some (.slice Aow R1.nodes.length Cow) := ((bcell bb).1 _ _ (by first | omega | (simp; done) | (simp; omega))).trans (by first | exact K2 | (simp only [World.cell?_drew]; exact K2) | (simp [go_sem]; done))
             replace K3 : v11.cell? ⟨v5.heap.size, 1, none⟩ = some (.slice Dow R1.opens.length Eow) := ((bcell bb).1 _ _ (by first | omega | (simp; done) | (simp; omega))).trans (by first | exact K3 | (simp only [World.cell?_drew]; exact K3) | (simp [go_sem]; done))
             replace K4 : v11.cell? ⟨v6.heap.size, 0, none⟩ = some (.slice Ax0 n0 Cx0) := ((bcell bb).1 _ _ (by first | omega | (simp; done) | (simp; omega))).trans (by first | exact K4 | (simp only [World.cell?_drew]; exact K4) | (simp [go_sem]; done))
             replace K5 : v11.cell? ⟨v6.heap.size, 1, none⟩ = some (.slice Dx0 n0' Ex0) := ((bcell bb).1 _ _ (by first | omega | (simp; done) | (simp; omega))).trans (by first | exact K5 | (simp only [World.cell?_drew]; exact K5) | (simp [go_sem]; done))
             replace K6 : v11.cell? ⟨v8.heap.size, 0, none⟩ = some (.slice Aog R1.nodes.length Cog) := ((bcell bb).1 _ _ (by first | omega | (simp; done) | (simp; omega))).trans (by first | exact K6 | (simp only [World.cell?_drew]; exact K6) | (simp [go_sem]; done))
             replace K7 : v11.cell? ⟨v8.heap.size, 1, none⟩ = some (.slice Dog R1.opens.length Eog) := ((bcell bb).1 _ _ (by first | omega | (simp; done) | (simp; omega))).trans (by first | exact K7 | (simp only [World.cell?_drew]; exact K7) | (simp [go_sem]; done))
             replace cb : Below w.heap.size w v11 := by first | exact cb.trans (bb.mono cb.size) | exact cb.drew.trans (bb.mono cb.drew.size)
             clear bb))
      clear p3
      go_wp2_with fail
      refine (toTokenS_any _ (hx1.next cb) (by omega) e2).mono ?_
      rintro e v12 ⟨Ap4, Cp4, Lp4, rfl, hp4, p4, bb⟩
      have zz := bb.size
      try simp only [World.size_drew, World.size_alloc] at zz
      replace ow := ow.below bb
      replace x0 := x0.below bb
      replace x1 := x1.below bb
      replace og := og.below bb
      replace K0 : v12.cell? ⟨w.heap.size, 0, none⟩ = some (.slice a0 n0 c0) := ((bcell bb).1 _ _ (by first | omega | (simp; done) | (simp; omega))).trans (by first | exact K0 | (simp only [World.cell?_drew]; exact K0) | (simp [go_sem]; done))
      replace K1 : v12.cell? ⟨w.heap.size, 1, none⟩ = some (.slice a0' n0' c0') := ((bcell bb).1 _ _ (by first | omega | (simp; done) | (simp; omega))).trans (by first | exact K1 | (simp only [World.cell?_drew]; exact K1) | (simp [go_sem]; done))
      replace K2 : v12.cell? ⟨v5.heap.size, 0, none⟩ = some (.slice Aow R1.nodes.length Cow) := ((bcell bb).1 _ _ (by first | omega | (simp; done) | (simp; omega))).trans (by first | exact K2 | (simp only [World.cell?_drew]; exact K2) | (simp [go_sem]; done))
      replace K3 : v12.cell? ⟨v5.heap.size, 1, none⟩ = some (.slice Dow R1.opens.length Eow) := ((bcell bb).1 _ _ (by first | omega | (simp; done) | (simp; omega))).trans (by first | exact K3 | (simp only [World.cell?_drew]; exact K3) | (simp [go_sem]; done))
      replace K4 : v12.cell? ⟨v6.heap.size, 0, none⟩ = some (.slice Ax0 n0 Cx0) := ((bcell bb).1 _ _ (by first | omega | (simp; done) | (simp; omega))).trans (by first | exact K4 | (simp only [World.cell?_drew]; exact K4) | (simp [go_sem]; done))
      replace K5 : v12.cell? ⟨v6.heap.size, 1, none⟩ = some (.slice Dx0 n0' Ex0) := ((bcell bb).1 _ _ (by first | omega | (simp; done) | (simp; omega))).trans (by first | exact K5 | (simp only [World.cell?_drew]; exact K5) | (simp [go_sem]; done))
      replace K6 : v12.cell? ⟨v8.heap.size, 0, none⟩ = some (.slice Aog R1.nodes.length Cog) := ((bcell bb).1 _ _ (by first | omega | (simp; done) | (simp; omega))).trans (by first | exact K6 | (simp only [World.cell?_drew]; exact K6) | (simp [go_sem]; done))
      replace K7 : v12.cell? ⟨v8.heap.size, 1, none⟩ = some (.slice Dog R1.opens.length Eog) := ((bcell bb).1 _ _ (by first | omega | (simp; done) | (simp; omega))).trans (by first | exact K7 | (simp only [World.cell?_drew]; exact K7) | (simp [go_sem]; done))
      replace cb : Below w.heap.size w v12 := by first | exact cb.trans (bb.mono cb.size) | exact cb.drew.trans (bb.mono cb.drew.size)
      clear bb
      go_wp2_with fail
      refine (eqTokenS_yes _ (OwnN.rd x1 hx1_ (by omega)) (OwnN.rd p4 hp4 (by omega)) (by omega) e2).mono ?_
      rintro e v13 ⟨rfl, bb⟩
      have zz := bb.size
      try simp only [World.size_drew, World.size_alloc] at zz
      replace ow := ow.below bb
      replace x0 := x0.below bb
      replace x1 := x1.below bb
      replace og := og.below bb
      replace p4 := p4.below bb
      replace K0 : v13.cell? ⟨w.heap.size, 0, none⟩ = some (.slice a0 n0 c0) := ((bcell bb).1 _ _ (by first | omega | (simp; done) | (simp; omega))).trans (by first | exact K0 | (simp only [World.cell?_drew]; exact K0) | (simp [go_sem]; done))
      replace K1 : v13.cell? ⟨w.heap.size, 1, none⟩ = some (.slice a0' n0' c0') := ((bcell bb).1 _ _ (by first | omega | (simp; done) | (simp; omega))).trans (by first | exact K1 | (simp only [World.cell?_drew]; exact K1) | (simp [go_sem]; done))
      replace K2 : v13.cell? ⟨v5.heap.size, 0, none⟩ = some (.slice Aow R1.nodes.length Cow) := ((bcell bb).1 _ _ (by first | omega | (simp; done) | (simp; omega))).trans (by first | exact K2 | (simp only [World.cell?_drew]; exact K2) | (simp [go_sem]; done))
      replace K3 : v13.cell? ⟨v5.heap.size, 1, none⟩ = some (.slice Dow R1.opens.length Eow) := ((bcell bb).1 _ _ (by first | omega | (simp; done) | (simp; omega))).trans (by first | exact K3 | (simp only [World.cell?_drew]; exact K3) | (simp [go_sem]; done))
      replace K4 : v13.cell? ⟨v6.heap.size, 0, none⟩ = some (.slice Ax0 n0 Cx0) := ((bcell bb).1 _ _ (by first | omega | (simp; done) | (simp; omega))).trans (by first | exact K4 | (simp only [World.cell?_drew]; exact K4) | (simp [go_sem]; done))
      replace K5 : v13.cell? ⟨v6.heap.size, 1, none⟩ = some (.slice Dx0 n0' Ex0) := ((bcell bb).1 _ _ (by first | omega | (simp; done) | (simp; omega))).trans (by first | exact K5 | (simp only [World.cell?_drew]; exact K5) | (simp [go_sem]; done))
      replace K6 : v13.cell? ⟨v8.heap.size, 0, none⟩ = some (.slice Aog R1.nodes.length Cog) := ((bcell bb).1 _ _ (by first | omega | (simp; done) | (simp; omega))).trans (by first | exact K6 | (simp only [World.cell?_drew]; exact K6) | (simp [go_sem]; done))
      replace K7 : v13.cell? ⟨v8.heap.size, 1, none⟩ = some (.slice Dog R1.opens.length Eog) := ((bcell bb).1 _ _ (by first | omega | (simp; done) | (simp; omega))).trans (by first | exact K7 | (simp only [World.cell?_drew]; exact K7) | (simp [go_sem]; done))
      replace cb : Below w.heap.size w v13 := by first | exact cb.trans (bb.mono cb.size) | exact cb.drew.trans (bb.mono cb.drew.size)
      clear bb
      clear p4
      go_wp2_with fail
      refine (markBuilder_some _ x0 (by omega) (by omega) (by omega) (by omega) (by simp only; omega)).mono ?_
      rintro e v14 ⟨Q1, rfl, hq1a, hq1b, bb⟩
      have zz := bb.size
      try simp only [World.size_drew, World.size_alloc] at zz
      replace cb : Below w.heap.size w v14 := cb.trans (bb.below cb.size (fun k hk => by have := hk.1; omega))
      replace ow := ow.keep bb (fun k hk => by have h1 := hk.1; have h2 := hk.2; omega)
      replace x1 := x1.keep bb (fun k hk => by have h1 := hk.1; have h2 := hk.2; omega)
      replace og := og.keep bb (fun k hk => by have h1 := hk.1; have h2 := hk.2; omega)
      replace K0 : v14.cell? ⟨w.heap.size, 0, none⟩ = some (.slice a0 n0 c0) := (keeps_cell bb (by omega) (fun hk => by have h1 := hk.1; have h2 := hk.2; omega)).trans K0
      replace K1 : v14.cell? ⟨w.heap.size, 1, none⟩ = some (.slice a0' n0' c0') := (keeps_cell bb (by omega) (fun hk => by have h1 := hk.1; have h2 := hk.2; omega)).trans K1
      replace K2 : v14.cell? ⟨v5.heap.size, 0, none⟩ = some (.slice Aow R1.nodes.length Cow) := (keeps_cell bb (by omega) (fun hk => by have h1 := hk.1; have h2 := hk.2; omega)).trans K2
      replace K3 : v14.cell? ⟨v5.heap.size, 1, none⟩ = some (.slice Dow R1.opens.length Eow) := (keeps_cell bb (by omega) (fun hk => by have h1 := hk.1; have h2 := hk.2; omega)).trans K3
      replace K4 : v14.cell? ⟨v6.heap.size, 0, none⟩ = some (.slice Ax0 n0 Cx0) := (keeps_cell bb (by omega) (fun hk => by have h1 := hk.1; have h2 := hk.2; omega)).trans K4
      replace K5 : v14.cell? ⟨v6.heap.size, 1, none⟩ = some (.slice Dx0 n0' Ex0) := (keeps_cell bb (by omega) (fun hk => by have h1 := hk.1; have h2 := hk.2; omega)).trans K5
      replace K6 : v14.cell? ⟨v8.heap.size, 0, none⟩ = some (.slice Aog R1.nodes.length Cog) := (keeps_cell bb (by omega) (fun hk => by have h1 := hk.1; have h2 := hk.2; omega)).trans K6
      replace K7 : v14.cell? ⟨v8.heap.size, 1, none⟩ = some (.slice Dog R1.opens.length Eog) := (keeps_cell bb (by omega) (fun hk => by have h1 := hk.1; have h2 := hk.2; omega)).trans K7
      clear bb
      clear x0
      simp only at hq1b
      go_wp2_with fail
      refine (markTokenS_some _ x1 hx1_ (by omega) (by omega) (by omega) (by omega)).mono ?_
      rintro e v15 ⟨Q2, rfl, hq2a, hq2b, bb⟩
      have zz := bb.size
      try simp only [World.size_drew, World.size_alloc] at zz
      replace cb : Below w.heap.size w v15 := cb.trans (bb.below cb.size (fun k hk => by have := hk.1; omega))
      replace ow := ow.keep bb (fun k hk => by have h1 := hk.1; have h2 := hk.2; omega)
      replace og := og.keep bb (fun k hk => by have h1 := hk.1; have h2 := hk.2; omega)
      replace K0 : v15.cell? ⟨w.heap.size, 0, none⟩ = some (.slice a0 n0 c0) := (keeps_cell bb (by omega) (fun hk => by have h1 := hk.1; have h2 := hk.2; omega)).trans K0
      replace K1 : v15.cell? ⟨w.heap.size, 1, none⟩ = some (.slice a0' n0' c0') := (keeps_cell bb (by omega) (fun hk => by have h1 := hk.1; have h2 := hk.2; omega)).trans K1
      replace K2 : v15.cell? ⟨v5.heap.size, 0, none⟩ = some (.slice Aow R1.nodes.length Cow) := (keeps_cell bb (by omega) (fun hk => by have h1 := hk.1; have h2 := hk.2; omega)).trans K2
      replace K3 : v15.cell? ⟨v5.heap.size, 1, none⟩ = some (.slice Dow R1.opens.length Eow) := (keeps_cell bb (by omega) (fun hk => by have h1 := hk.1; have h2 := hk.2; omega)).trans K3
      replace K4 : v15.cell? ⟨v6.heap.size, 0, none⟩ = some (.slice Ax0 n0 Cx0) := (keeps_cell bb (by omega) (fun hk => by have h1 := hk.1; have h2 := hk.2; omega)).trans K4
      replace K5 : v15.cell? ⟨v6.heap.size, 1, none⟩ = some (.slice Dx0 n0' Ex0) := (keeps_cell bb (by omega) (fun hk => by have h1 := hk.1; have h2 := hk.2; omega)).trans K5
      replace K6 : v15.cell? ⟨v8.heap.size, 0, none⟩ = some (.slice Aog R1.nodes.length Cog) := (keeps_cell bb (by omega) (fun hk => by have h1 := hk.1; have h2 := hk.2; omega)).trans K6
      replace K7 : v15.cell? ⟨v8.heap.size, 1, none⟩ = some (.slice Dog R1.opens.length Eog) := (keeps_cell bb (by omega) (fun hk => by have h1 := hk.1; have h2 := hk.2; omega)).trans K7
      clear bb
      clear x1
      have hqd : decide (Q2 < 0) = false := by simp; omega
      go_wp2_with fail
      refine (eqBuilder_yes R1 _ (OwnB.rd og (by omega)) (OwnB.rd ow (by omega)) (by omega) hr3 (by omega)).mono ?_
      rintro e v16 ⟨rfl, bb⟩
      have zz := bb.size
      try simp only [World.size_drew, World.size_alloc] at zz
      replace ow := ow.below bb
      replace og := og.below bb
      replace K0 : v16.cell? ⟨w.heap.size, 0, none⟩ = some (.slice a0 n0 c0) := ((bcell bb).1 _ _ (by first | omega | (simp; done) | (simp; omega))).trans (by first | exact K0 | (simp only [World.cell?_drew]; exact K0) | (simp [go_sem]; done))
      replace K1 : v16.cell? ⟨w.heap.size, 1, none⟩ = some (.slice a0' n0' c0') := ((bcell bb).1 _ _ (by first | omega | (simp; done) | (simp; omega))).trans (by first | exact K1 | (simp only [World.cell?_drew]; exact K1) | (simp [go_sem]; done))
      replace K2 : v16.cell? ⟨v5.heap.size, 0, none⟩ = some (.slice Aow R1.nodes.length Cow) := ((bcell bb).1 _ _ (by first | omega | (simp; done) | (simp; omega))).trans (by first | exact K2 | (simp only [World.cell?_drew]; exact K2) | (simp [go_sem]; done))
      replace K3 : v16.cell? ⟨v5.heap.size, 1, none⟩ = some (.slice Dow R1.opens.length Eow) := ((bcell bb).1 _ _ (by first | omega | (simp; done) | (simp; omega))).trans (by first | exact K3 | (simp only [World.cell?_drew]; exact K3) | (simp [go_sem]; done))
      replace K4 : v16.cell? ⟨v6.heap.size, 0, none⟩ = some (.slice Ax0 n0 Cx0) := ((bcell bb).1 _ _ (by first | omega | (simp; done) | (simp; omega))).trans (by first | exact K4 | (simp only [World.cell?_drew]; exact K4) | (simp [go_sem]; done))
      replace K5 : v16.cell? ⟨v6.heap.size, 1, none⟩ = some (.slice Dx0 n0' Ex0) := ((bcell bb).1 _ _ (by first | omega | (simp; done) | (simp; omega))).trans (by first | exact K5 | (simp only [World.cell?_drew]; exact K5) | (simp [go_sem]; done))
      replace K6 : v16.cell? ⟨v8.heap.size, 0, none⟩ = some (.slice Aog R1.nodes.length Cog) := ((bcell bb).1 _ _ (by first | omega | (simp; done) | (simp; omega))).trans (by first | exact K6 | (simp only [World.cell?_drew]; exact K6) | (simp [go_sem]; done))
      replace K7 : v16.cell? ⟨v8.heap.size, 1, none⟩ = some (.slice Dog R1.opens.length Eog) := ((bcell bb).1 _ _ (by first | omega | (simp; done) | (simp; omega))).trans (by first | exact K7 | (simp only [World.cell?_drew]; exact K7) | (simp [go_sem]; done))
      replace cb : Below w.heap.size w v16 := by first | exact cb.trans (bb.mono cb.size) | exact cb.drew.trans (bb.mono cb.drew.size)
      clear bb
      go_wp2_with fail
      refine (markBuilder_any _ og (by omega) (by omega) (by omega) (by omega) (by omega)).mono ?_
      rintro e v17 ⟨rfl, om, bb⟩
      have zz := bb.size
      try simp only [World.size_drew, World.size_alloc] at zz
      replace cb : Below w.heap.size w v17 := cb.trans (bb.below cb.size (fun k hk => by have := hk.1; omega))
      replace ow := ow.keep bb (fun k hk => by have h1 := hk.1; have h2 := hk.2; omega)
      replace K0 : v17.cell? ⟨w.heap.size, 0, none⟩ = some (.slice a0 n0 c0) := (keeps_cell bb (by omega) (fun hk => by have h1 := hk.1; have h2 := hk.2; omega)).trans K0
      replace K1 : v17.cell? ⟨w.heap.size, 1, none⟩ = some (.slice a0' n0' c0') := (keeps_cell bb (by omega) (fun hk => by have h1 := hk.1; have h2 := hk.2; omega)).trans K1
      replace K2 : v17.cell? ⟨v5.heap.size, 0, none⟩ = some (.slice Aow R1.nodes.length Cow) := (keeps_cell bb (by omega) (fun hk => by have h1 := hk.1; have h2 := hk.2; omega)).trans K2
      replace K3 : v17.cell? ⟨v5.heap.size, 1, none⟩ = some (.slice Dow R1.opens.length Eow) := (keeps_cell bb (by omega) (fun hk => by have h1 := hk.1; have h2 := hk.2; omega)).trans K3
      replace K4 : v17.cell? ⟨v6.heap.size, 0, none⟩ = some (.slice Ax0 n0 Cx0) := (keeps_cell bb (by omega) (fun hk => by have h1 := hk.1; have h2 := hk.2; omega)).trans K4
      replace K5 : v17.cell? ⟨v6.heap.size, 1, none⟩ = some (.slice Dx0 n0' Ex0) := (keeps_cell bb (by omega) (fun hk => by have h1 := hk.1; have h2 := hk.2; omega)).trans K5
      replace K6 : v17.cell? ⟨v8.heap.size, 0, none⟩ = some (.slice Aog R1.nodes.length Cog) := (keeps_cell bb (by omega) (fun hk => by have h1 := hk.1; have h2 := hk.2; omega)).trans K6
      replace K7 : v17.cell? ⟨v8.heap.size, 1, none⟩ = some (.slice Dog R1.opens.length Eog) := (keeps_cell bb (by omega) (fun hk => by have h1 := hk.1; have h2 := hk.2; omega)).trans K7
      clear bb
      clear og
      replace om := om.more (by omega : _ ≤ v17.heap.size)
      go_wp2_with fail
      refine (heldBuilder_any _ om (by omega) (by omega) (by omega) (by omega)).mono ?_
      rintro e v18 ⟨rfl, bb⟩
      have zz := bb.size
      try simp only [World.size_drew, World.size_alloc] at zz
      replace ow := ow.below bb
      replace om := om.next bb
      replace K0 : v18.cell? ⟨w.heap.size, 0, none⟩ = some (.slice a0 n0 c0) := ((bcell bb).1 _ _ (by first | omega | (simp; done) | (simp; omega))).trans (by first | exact K0 | (simp only [World.cell?_drew]; exact K0) | (simp [go_sem]; done))
      replace K1 : v18.cell? ⟨w.heap.size, 1, none⟩ = some (.slice a0' n0' c0') := ((bcell bb).1 _ _ (by first | omega | (simp; done) | (simp; omega))).trans (by first | exact K1 | (simp only [World.cell?_drew]; exact K1) | (simp [go_sem]; done))
      replace K2 : v18.cell? ⟨v5.heap.size, 0, none⟩ = some (.slice Aow R1.nodes.length Cow) := ((bcell bb).1 _ _ (by first | omega | (simp; done) | (simp; omega))).trans (by first | exact K2 | (simp only [World.cell?_drew]; exact K2) | (simp [go_sem]; done))
      replace K3 : v18.cell? ⟨v5.heap.size, 1, none⟩ = some (.slice Dow R1.opens.length Eow) := ((bcell bb).1 _ _ (by first | omega | (simp; done) | (simp; omega))).trans (by first | exact K3 | (simp only [World.cell?_drew]; exact K3) | (simp [go_sem]; done))
      replace K4 : v18.cell? ⟨v6.heap.size, 0, none⟩ = some (.slice Ax0 n0 Cx0) := ((bcell bb).1 _ _ (by first | omega | (simp; done) | (simp; omega))).trans (by first | exact K4 | (simp only [World.cell?_drew]; exact K4) | (simp [go_sem]; done))
      replace K5 : v18.cell? ⟨v6.heap.size, 1, none⟩ = some (.slice Dx0 n0' Ex0) := ((bcell bb).1 _ _ (by first | omega | (simp; done) | (simp; omega))).trans (by first | exact K5 | (simp only [World.cell?_drew]; exact K5) | (simp [go_sem]; done))
      replace K6 : v18.cell? ⟨v8.heap.size, 0, none⟩ = some (.slice Aog R1.nodes.length Cog) := ((bcell bb).1 _ _ (by first | omega | (simp; done) | (simp; omega))).trans (by first | exact K6 | (simp only [World.cell?_drew]; exact K6) | (simp [go_sem]; done))
      replace K7 : v18.cell? ⟨v8.heap.size, 1, none⟩ = some (.slice Dog R1.opens.length Eog) := ((bcell bb).1 _ _ (by first | omega | (simp; done) | (simp; omega))).trans (by first | exact K7 | (simp only [World.cell?_drew]; exact K7) | (simp [go_sem]; done))
      replace cb : Below w.heap.size w v18 := by first | exact cb.trans (bb.mono cb.size) | exact cb.drew.trans (bb.mono cb.drew.size)
      clear bb
      go_wp2_with fail
      refine (toBuilder_any ⟨l0, z0⟩ _ (hx0.next cb) (by omega) y03 (by omega)).mono ?_
      rintro e v19 ⟨Aohb, Cohb, Dohb, Eohb, Lohb, rfl, ohb, bb⟩
      have zz := bb.size
      try simp only [World.size_drew, World.size_alloc] at zz
      replace ow := ow.below bb
      replace om := om.next bb
      replace K0 : v19.cell? ⟨w.heap.size, 0, none⟩ = some (.slice a0 n0 c0) := ((bcell bb).1 _ _ (by first | omega | (simp; done) | (simp; omega))).trans (by first | exact K0 | (simp only [World.cell?_drew]; exact K0) | (simp [go_sem]; done))
      replace K1 : v19.cell? ⟨w.heap.size, 1, none⟩ = some (.slice a0' n0' c0') := ((bcell bb).1 _ _ (by first | omega | (simp; done) | (simp; omega))).trans (by first | exact K1 | (simp only [World.cell?_drew]; exact K1) | (simp [go_sem]; done))
      replace K2 : v19.cell? ⟨v5.heap.size, 0, none⟩ = some (.slice Aow R1.nodes.length Cow) := ((bcell bb).1 _ _ (by first | omega | (simp; done) | (simp; omega))).trans (by first | exact K2 | (simp only [World.cell?_drew]; exact K2) | (simp [go_sem]; done))
      replace K3 : v19.cell? ⟨v5.heap.size, 1, none⟩ = some (.slice Dow R1.opens.length Eow) := ((bcell bb).1 _ _ (by first | omega | (simp; done) | (simp; omega))).trans (by first | exact K3 | (simp only [World.cell?_drew]; exact K3) | (simp [go_sem]; done))
      replace K4 : v19.cell? ⟨v6.heap.size, 0, none⟩ = some (.slice Ax0 n0 Cx0) := ((bcell bb).1 _ _ (by first | omega | (simp; done) | (simp; omega))).trans (by first | exact K4 | (simp only [World.cell?_drew]; exact K4) | (simp [go_sem]; done))
      replace K5 : v19.cell? ⟨v6.heap.size, 1, none⟩ = some (.slice Dx0 n0' Ex0) := ((bcell bb).1 _ _ (by first | omega | (simp; done) | (simp; omega))).trans (by first | exact K5 | (simp only [World.cell?_drew]; exact K5) | (simp [go_sem]; done))
      replace K6 : v19.cell? ⟨v8.heap.size, 0, none⟩ = some (.slice Aog R1.nodes.length Cog) := ((bcell bb).1 _ _ (by first | omega | (simp; done) | (simp; omega))).trans (by first | exact K6 | (simp only [World.cell?_drew]; exact K6) | (simp [go_sem]; done))
      replace K7 : v19.cell? ⟨v8.heap.size, 1, none⟩ = some (.slice Dog R1.opens.length Eog) := ((bcell bb).1 _ _ (by first | omega | (simp; done) | (simp; omega))).trans (by first | exact K7 | (simp only [World.cell?_drew]; exact K7) | (simp [go_sem]; done))
      replace cb : Below w.heap.size w v19 := by first | exact cb.trans (bb.mono cb.size) | exact cb.drew.trans (bb.mono cb.drew.size)
      clear bb
      go_wp2_with fail
      refine (toTokenS_any _ (hx1.next cb) (by omega) e2).mono ?_
      rintro e v20 ⟨Aoht, Coht, Loht, rfl, hoht, oht, bb⟩
      have zz := bb.size
      try simp only [World.size_drew, World.size_alloc] at zz
      replace ow := ow.below bb
      replace ohb := ohb.below bb
      replace om := om.next bb
      replace K0 : v20.cell? ⟨w.heap.size, 0, none⟩ = some (.slice a0 n0 c0) := ((bcell bb).1 _ _ (by first | omega | (simp; done) | (simp; omega))).trans (by first | exact K0 | (simp only [World.cell?_drew]; exact K0) | (simp [go_sem]; done))
      replace K1 : v20.cell? ⟨w.heap.size, 1, none⟩ = some (.slice a0' n0' c0') := ((bcell bb).1 _ _ (by first | omega | (simp; done) | (simp; omega))).trans (by first | exact K1 | (simp only [World.cell?_drew]; exact K1) | (simp [go_sem]; done))
      replace K2 : v20.cell? ⟨v5.heap.size, 0, none⟩ = some (.slice Aow R1.nodes.length Cow) := ((bcell bb).1 _ _ (by first | omega | (simp; done) | (simp; omega))).trans (by first | exact K2 | (simp only [World.cell?_drew]; exact K2) | (simp [go_sem]; done))
      replace K3 : v20.cell? ⟨v5.heap.size, 1, none⟩ = some (.slice Dow R1.opens.length Eow) := ((bcell bb).1 _ _ (by first | omega | (simp; done) | (simp; omega))).trans (by first | exact K3 | (simp only [World.cell?_drew]; exact K3) | (simp [go_sem]; done))
      replace K4 : v20.cell? ⟨v6.heap.size, 0, none⟩ = some (.slice Ax0 n0 Cx0) := ((bcell bb).1 _ _ (by first | omega | (simp; done) | (simp; omega))).trans (by first | exact K4 | (simp only [World.cell?_drew]; exact K4) | (simp [go_sem]; done))
      replace K5 : v20.cell? ⟨v6.heap.size, 1, none⟩ = some (.slice Dx0 n0' Ex0) := ((bcell bb).1 _ _ (by first | omega | (simp; done) | (simp; omega))).trans (by first | exact K5 | (simp only [World.cell?_drew]; exact K5) | (simp [go_sem]; done))
      replace K6 : v20.cell? ⟨v8.heap.size, 0, none⟩ = some (.slice Aog R1.nodes.length Cog) := ((bcell bb).1 _ _ (by first | omega | (simp; done) | (simp; omega))).trans (by first | exact K6 | (simp only [World.cell?_drew]; exact K6) | (simp [go_sem]; done))
      replace K7 : v20.cell? ⟨v8.heap.size, 1, none⟩ = some (.slice Dog R1.opens.length Eog) := ((bcell bb).1 _ _ (by first | omega | (simp; done) | (simp; omega))).trans (by first | exact K7 | (simp only [World.cell?_drew]; exact K7) | (simp [go_sem]; done))
      replace cb : Below w.heap.size w v20 := by first | exact cb.trans (bb.mono cb.size) | exact cb.drew.trans (bb.mono cb.drew.size)
      clear bb
      go_wp2_with fail
      refine (himpl _ _ _ _ _ _ _ (OwnB.rd ohb (by omega)) (OwnN.rd oht hoht (by omega))).mono ?_
      rintro e v21 ⟨Aoh, Coh, Doh, Eoh, Loh, rfl, oh, bb⟩
      have zz := bb.size
      try simp only [World.size_drew, World.size_alloc] at zz
      replace ow := ow.below bb
      replace ohb := ohb.below bb
      replace oht := oht.below bb
      replace om := om.next bb
      replace K0 : v21.cell? ⟨w.heap.size, 0, none⟩ = some (.slice a0 n0 c0) := ((bcell bb).1 _ _ (by first | omega | (simp; done) | (simp; omega))).trans (by first | exact K0 | (simp only [World.cell?_drew]; exact K0) | (simp [go_sem]; done))
      replace K1 : v21.cell? ⟨w.heap.size, 1, none⟩ = some (.slice a0' n0' c0') := ((bcell bb).1 _ _ (by first | omega | (simp; done) | (simp; omega))).trans (by first | exact K1 | (simp only [World.cell?_drew]; exact K1) | (simp [go_sem]; done))
      replace K2 : v21.cell? ⟨v5.heap.size, 0, none⟩ = some (.slice Aow R1.nodes.length Cow) := ((bcell bb).1 _ _ (by first | omega | (simp; done) | (simp; omega))).trans (by first | exact K2 | (simp only [World.cell?_drew]; exact K2) | (simp [go_sem]; done))
      replace K3 : v21.cell? ⟨v5.heap.size, 1, none⟩ = some (.slice Dow R1.opens.length Eow) := ((bcell bb).1 _ _ (by first | omega | (simp; done) | (simp; omega))).trans (by first | exact K3 | (simp only [World.cell?_drew]; exact K3) | (simp [go_sem]; done))
      replace K4 : v21.cell? ⟨v6.heap.size, 0, none⟩ = some (.slice Ax0 n0 Cx0) := ((bcell bb).1 _ _ (by first | omega | (simp; done) | (simp; omega))).trans (by first | exact K4 | (simp only [World.cell?_drew]; exact K4) | (simp [go_sem]; done))
      replace K5 : v21.cell? ⟨v6.heap.size, 1, none⟩ = some (.slice Dx0 n0' Ex0) := ((bcell bb).1 _ _ (by first | omega | (simp; done) | (simp; omega))).trans (by first | exact K5 | (simp only [World.cell?_drew]; exact K5) | (simp [go_sem]; done))
      replace K6 : v21.cell? ⟨v8.heap.size, 0, none⟩ = some (.slice Aog R1.nodes.length Cog) := ((bcell bb).1 _ _ (by first | omega | (simp; done) | (simp; omega))).trans (by first | exact K6 | (simp only [World.cell?_drew]; exact K6) | (simp [go_sem]; done))
      replace K7 : v21.cell? ⟨v8.heap.size, 1, none⟩ = some (.slice Dog R1.opens.length Eog) := ((bcell bb).1 _ _ (by first | omega | (simp; done) | (simp; omega))).trans (by first | exact K7 | (simp only [World.cell?_drew]; exact K7) | (simp [go_sem]; done))
      replace cb : Below w.heap.size w v21 := by first | exact cb.trans (bb.mono cb.size) | exact cb.drew.trans (bb.mono cb.drew.size)
      clear bb
      clear ohb
      clear oht
      replace K0 : (v21.alloc (.cells #[.slice Aoh R1.nodes.length Coh, .slice Doh R1.opens.length Eoh] 52)).cell? ⟨w.heap.size, 0, none⟩ = some (.slice a0 n0 c0) := (World.cell?_alloc_some _ _ _ (by rw [K0]; rfl)).trans K0
      replace K1 : (v21.alloc (.cells #[.slice Aoh R1.nodes.length Coh, .slice Doh R1.opens.length Eoh] 52)).cell? ⟨w.heap.size, 1, none⟩ = some (.slice a0' n0' c0') := (World.cell?_alloc_some _ _ _ (by rw [K1]; rfl)).trans K1
      replace K2 : (v21.alloc (.cells #[.slice Aoh R1.nodes.length Coh, .slice Doh R1.opens.length Eoh] 52)).cell? ⟨v5.heap.size, 0, none⟩ = some (.slice Aow R1.nodes.length Cow) := (World.cell?_alloc_some _ _ _ (by rw [K2]; rfl)).trans K2
      replace K3 : (v21.alloc (.cells #[.slice Aoh R1.nodes.length Coh, .slice Doh R1.opens.length Eoh] 52)).cell? ⟨v5.heap.size, 1, none⟩ = some (.slice Dow R1.opens.length Eow) := (World.cell?_alloc_some _ _ _ (by rw [K3]; rfl)).trans K3
      replace K4 : (v21.alloc (.cells #[.slice Aoh R1.nodes.length Coh, .slice Doh R1.opens.length Eoh] 52)).cell? ⟨v6.heap.size, 0, none⟩ = some (.slice Ax0 n0 Cx0) := (World.cell?_alloc_some _ _ _ (by rw [K4]; rfl)).trans K4
      replace K5 : (v21.alloc (.cells #[.slice Aoh R1.nodes.length Coh, .slice Doh R1.opens.length Eoh] 52)).cell? ⟨v6.heap.size, 1, none⟩ = some (.slice Dx0 n0' Ex0) := (World.cell?_alloc_some _ _ _ (by rw [K5]; rfl)).trans K5
      replace K6 : (v21.alloc (.cells #[.slice Aoh R1.nodes.length Coh, .slice Doh R1.opens.length Eoh] 52)).cell? ⟨v8.heap.size, 0, none⟩ = some (.slice Aog R1.nodes.length Cog) := (World.cell?_alloc_some _ _ _ (by rw [K6]; rfl)).trans K6
      replace K7 : (v21.alloc (.cells #[.slice Aoh R1.nodes.length Coh, .slice Doh R1.opens.length Eoh] 52)).cell? ⟨v8.heap.size, 1, none⟩ = some (.slice Dog R1.opens.length Eog) := (World.cell?_alloc_some _ _ _ (by rw [K7]; rfl)).trans K7
      have K8 : (v21.alloc (.cells #[.slice Aoh R1.nodes.length Coh, .slice Doh R1.opens.length Eoh] 52)).cell? ⟨v21.heap.size, 0, none⟩ = some (.slice Aoh R1.nodes.length Coh) := by simp [go_sem]
      have K9 : (v21.alloc (.cells #[.slice Aoh R1.nodes.length Coh, .slice Doh R1.opens.length Eoh] 52)).cell? ⟨v21.heap.size, 1, none⟩ = some (.slice Doh R1.opens.length Eoh) := by simp [go_sem]
      replace ow := ow.below ((Below.refl _ _).alloc (Nat.le_refl _) (.cells #[.slice Aoh R1.nodes.length Coh, .slice Doh R1.opens.length Eoh] 52))
      replace oh := oh.below ((Below.refl _ _).alloc (Nat.le_refl _) (.cells #[.slice Aoh R1.nodes.length Coh, .slice Doh R1.opens.length Eoh] 52))
      replace om := om.next ((Below.refl _ _).alloc (Nat.le_refl _) (.cells #[.slice Aoh R1.nodes.length Coh, .slice Doh R1.opens.length Eoh] 52))
      replace cb : Below w.heap.size w (v21.alloc (.cells #[.slice Aoh R1.nodes.length Coh, .slice Doh R1.opens.length Eoh] 52)) := cb.alloc cb.size (.cells #[.slice Aoh R1.nodes.length Coh, .slice Doh R1.opens.length Eoh] 52)
      have zz : v21.heap.size < (v21.alloc (.cells #[.slice Aoh R1.nodes.length Coh, .slice Doh R1.opens.length Eoh] 52)).heap.size := by simp
      go_wp2_with fail
      refine (eqBuilder_yes R1 _ (OwnB.rd oh (by omega)) (OwnB.rd ow (by omega)) (by omega) hr3 (by omega)).mono ?_
      rintro e v22 ⟨rfl, bb⟩
      have zz := bb.size
      try simp only [World.size_drew, World.size_alloc] at zz
      replace ow := ow.below bb
      replace oh := oh.below bb
      replace om := om.next bb
      replace K0 : v22.cell? ⟨w.heap.size, 0, none⟩ = some (.slice a0 n0 c0) := ((bcell bb).1 _ _ (by first | omega | (simp; done) | (simp; omega))).trans (by first | exact K0 | (simp only [World.cell?_drew]; exact K0) | (simp [go_sem]; done))
      replace K1 : v22.cell? ⟨w.heap.size, 1, none⟩ = some (.slice a0' n0' c0') := ((bcell bb).1 _ _ (by first | omega | (simp; done) | (simp; omega))).trans (by first | exact K1 | (simp only [World.cell?_drew]; exact K1) | (simp [go_sem]; done))
      replace K2 : v22.cell? ⟨v5.heap.size, 0, none⟩ = some (.slice Aow R1.nodes.length Cow) := ((bcell bb).1 _ _ (by first | omega | (simp; done) | (simp; omega))).trans (by first | exact K2 | (simp only [World.cell?_drew]; exact K2) | (simp [go_sem]; done))
      replace K3 : v22.cell? ⟨v5.heap.size, 1, none⟩ = some (.slice Dow R1.opens.length Eow) := ((bcell bb).1 _ _ (by first | omega | (simp; done) | (simp; omega))).trans (by first | exact K3 | (simp only [World.cell?_drew]; exact K3) | (simp [go_sem]; done))
      replace K4 : v22.cell? ⟨v6.heap.size, 0, none⟩ = some (.slice Ax0 n0 Cx0) := ((bcell bb).1 _ _ (by first | omega | (simp; done) | (simp; omega))).trans (by first | exact K4 | (simp only [World.cell?_drew]; exact K4) | (simp [go_sem]; done))
      replace K5 : v22.cell? ⟨v6.heap.size, 1, none⟩ = some (.slice Dx0 n0' Ex0) := ((bcell bb).1 _ _ (by first | omega | (simp; done) | (simp; omega))).trans (by first | exact K5 | (simp only [World.cell?_drew]; exact K5) | (simp [go_sem]; done))
      replace K6 : v22.cell? ⟨v8.heap.size, 0, none⟩ = some (.slice Aog R1.nodes.length Cog) := ((bcell bb).1 _ _ (by first | omega | (simp; done) | (simp; omega))).trans (by first | exact K6 | (simp only [World.cell?_drew]; exact K6) | (simp [go_sem]; done))
      replace K7 : v22.cell? ⟨v8.heap.size, 1, none⟩ = some (.slice Dog R1.opens.length Eog) := ((bcell bb).1 _ _ (by first | omega | (simp; done) | (simp; omega))).trans (by first | exact K7 | (simp only [World.cell?_drew]; exact K7) | (simp [go_sem]; done))
      replace K8 : v22.cell? ⟨v21.heap.size, 0, none⟩ = some (.slice Aoh R1.nodes.length Coh) := ((bcell bb).1 _ _ (by first | omega | (simp; done) | (simp; omega))).trans (by first | exact K8 | (simp only [World.cell?_drew]; exact K8) | (simp [go_sem]; done))
      replace K9 : v22.cell? ⟨v21.heap.size, 1, none⟩ = some (.slice Doh R1.opens.length Eoh) := ((bcell bb).1 _ _ (by first | omega | (simp; done) | (simp; omega))).trans (by first | exact K9 | (simp only [World.cell?_drew]; exact K9) | (simp [go_sem]; done))
      replace cb : Below w.heap.size w v22 := by first | exact cb.trans (bb.mono cb.size) | exact cb.drew.trans (bb.mono cb.drew.size)
      clear bb
      go_wp2_with fail
      refine (heldBuilder_any _ om (by omega) (by omega) (by omega) (by omega)).mono ?_
      rintro e v23 ⟨rfl, bb⟩
      have zz := bb.size
      try simp only [World.size_drew, World.size_alloc] at zz
      replace ow := ow.below bb
      replace oh := oh.below bb
      replace om := om.next bb
      replace K0 : v23.cell? ⟨w.heap.size, 0, none⟩ = some (.slice a0 n0 c0) := ((bcell bb).1 _ _ (by first | omega | (simp; done) | (simp; omega))).trans (by first | exact K0 | (simp only [World.cell?_drew]; exact K0) | (simp [go_sem]; done))
      replace K1 : v23.cell? ⟨w.heap.size, 1, none⟩ = some (.slice a0' n0' c0') := ((bcell bb).1 _ _ (by first | omega | (simp; done) | (simp; omega))).trans (by first | exact K1 | (simp only [World.cell?_drew]; exact K1) | (simp [go_sem]; done))
      replace K2 : v23.cell? ⟨v5.heap.size, 0, none⟩ = some (.slice Aow R1.nodes.length Cow) := ((bcell bb).1 _ _ (by first | omega | (simp; done) | (simp; omega))).trans (by first | exact K2 | (simp only [World.cell?_drew]; exact K2) | (simp [go_sem]; done))
      replace K3 : v23.cell? ⟨v5.heap.size, 1, none⟩ = some (.slice Dow R1.opens.length Eow) := ((bcell bb).1 _ _ (by first | omega | (simp; done) | (simp; omega))).trans (by first | exact K3 | (simp only [World.cell?_drew]; exact K3) | (simp [go_sem]; done))
      replace K4 : v23.cell? ⟨v6.heap.size, 0, none⟩ = some (.slice Ax0 n0 Cx0) := ((bcell bb).1 _ _ (by first | omega | (simp; done) | (simp; omega))).trans (by first | exact K4 | (simp only [World.cell?_drew]; exact K4) | (simp [go_sem]; done))
      replace K5 : v23.cell? ⟨v6.heap.size, 1, none⟩ = some (.slice Dx0 n0' Ex0) := ((bcell bb).1 _ _ (by first | omega | (simp; done) | (simp; omega))).trans (by first | exact K5 | (simp only [World.cell?_drew]; exact K5) | (simp [go_sem]; done))
      replace K6 : v23.cell? ⟨v8.heap.size, 0, none⟩ = some (.slice Aog R1.nodes.length Cog) := ((bcell bb).1 _ _ (by first | omega | (simp; done) | (simp; omega))).trans (by first | exact K6 | (simp only [World.cell?_drew]; exact K6) | (simp [go_sem]; done))
      replace K7 : v23.cell? ⟨v8.heap.size, 1, none⟩ = some (.slice Dog R1.opens.length Eog) := ((bcell bb).1 _ _ (by first | omega | (simp; done) | (simp; omega))).trans (by first | exact K7 | (simp only [World.cell?_drew]; exact K7) | (simp [go_sem]; done))
      replace K8 : v23.cell? ⟨v21.heap.size, 0, none⟩ = some (.slice Aoh R1.nodes.length Coh) := ((bcell bb).1 _ _ (by first | omega | (simp; done) | (simp; omega))).trans (by first | exact K8 | (simp only [World.cell?_drew]; exact K8) | (simp [go_sem]; done))
      replace K9 : v23.cell? ⟨v21.heap.size, 1, none⟩ = some (.slice Doh R1.opens.length Eoh) := ((bcell bb).1 _ _ (by first | omega | (simp; done) | (simp; omega))).trans (by first | exact K9 | (simp only [World.cell?_drew]; exact K9) | (simp [go_sem]; done))
      replace cb : Below w.heap.size w v23 := by first | exact cb.trans (bb.mono cb.size) | exact cb.drew.trans (bb.mono cb.drew.size)
      clear bb
      go_wp2
      go_ret
      exact ⟨rfl, cb⟩

end Go.Proofs.Ytflcknknkekkfaa
