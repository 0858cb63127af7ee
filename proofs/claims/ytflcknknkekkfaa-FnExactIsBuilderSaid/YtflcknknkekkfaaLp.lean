/-
  The walk of the generated law of the function IsBuilder. No condition.
-/
import Derived.Test.YtflcknknkekkfaaIb3
import Derived.Test.YtflcknknkekkfaaNop
import Derived.Test.YtflcknknkekkfaaLb2
import Derived.Test.YtflcknknkekkfaaLh
import Derived.Deep.RegionHeld3
namespace Go.Proofs.Ytflcknknkekkfaa
set_option linter.unusedVariables false
set_option linter.unusedSimpArgs false
set_option maxRecDepth 100000
open Go.ChangeShapes Go.WideShapes Go.ChangeAt Go.RowKit Go.Deep


set_option maxHeartbeats 2000000 in
theorem fnExactIsBuilder_walk (w : World) (a0 : Option Addr) (n0 c0 : Nat) (l0 : List Nod) (a0' : Option Addr) (n0' c0' : Nat) (z0 : List Int) (g0 : ArgB w a0 n0 l0 a0' n0' z0) :
    Calls Try.prog 10 #[.agg #[.slice a0 n0 c0, .slice a0' n0' c0']] w fun e w' => e = .returned (.bool true) ∧ Below w.heap.size w w' := by
  obtain ⟨q01, q02, q03, q04, q05, q06, q07⟩ := g0
  have hx0 : ReadsB w w.heap.size a0 n0 a0' n0' ⟨l0, z0⟩ := ⟨q02, q06⟩
  clear q02 q06 q04
  have cb : Below w.heap.size w w := Below.refl _ _
  have K0 : (w.alloc (.cells #[.slice a0 n0 c0, .slice a0' n0' c0'] 59)).cell? ⟨w.heap.size, 0, none⟩ = some (.slice a0 n0 c0) := by simp [go_sem]
  have K1 : (w.alloc (.cells #[.slice a0 n0 c0, .slice a0' n0' c0'] 59)).cell? ⟨w.heap.size, 1, none⟩ = some (.slice a0' n0' c0') := by simp [go_sem]
  replace cb : Below w.heap.size w (w.alloc (.cells #[.slice a0 n0 c0, .slice a0' n0' c0'] 59)) := cb.alloc cb.size (.cells #[.slice a0 n0 c0, .slice a0' n0' c0'] 59)
  have zz : w.heap.size < (w.alloc (.cells #[.slice a0 n0 c0, .slice a0' n0' c0'] 59)).heap.size := by simp
  go_enter Try.func10, Try.ntmps10
  go_wp2_with fail
  refine (szBuilder_any ⟨l0, z0⟩ _ (hx0.next cb) q01 q03 q05 _ (by omega) (by omega)).mono ?_
  rintro e v1 ⟨r1, rfl, h1a, h1b, h1c, bb⟩
  have zz := bb.size
  try simp only [World.size_drew, World.size_alloc] at zz
  replace K0 : v1.cell? ⟨w.heap.size, 0, none⟩ = some (.slice a0 n0 c0) := ((bcell bb).1 _ _ (by first | omega | (simp; done) | (simp; omega))).trans (by first | exact K0 | (simp only [World.cell?_drew]; exact K0) | (simp [go_sem]; done))
  replace K1 : v1.cell? ⟨w.heap.size, 1, none⟩ = some (.slice a0' n0' c0') := ((bcell bb).1 _ _ (by first | omega | (simp; done) | (simp; omega))).trans (by first | exact K1 | (simp only [World.cell?_drew]; exact K1) | (simp [go_sem]; done))
  replace cb : Below w.heap.size w v1 := by first | exact cb.trans (bb.mono cb.size) | exact cb.drew.trans (bb.mono cb.drew.size)
  clear bb
  rcases Int.lt_or_le r1 0 with hneg | hpos
  · go_wp2
    go_ret
    exact ⟨rfl, cb⟩
  · have h1d := h1c hpos
    clear h1c
    have nb0 : 0 ≤ bldSz ⟨l0, z0⟩ := by have := nodsSz_nonneg l0; unfold bldSz; simp only; omega
    obtain ⟨y01, y02, y03, y04⟩ := bld_bounds hx0 (by omega)
    have hzn : ∀ a ∈ (⟨l0, z0⟩ : Bld).nodes, a.name.size ≤ 9223372036854775807 := fun a ha => (q03 a ha).1
    go_wp2_with fail
    refine (toBuilder_any ⟨l0, z0⟩ _ (hx0.next cb) (by omega) y03 (by omega)).mono ?_
    rintro e v2 ⟨Ao1, Co1, Do1, Eo1, Lo1, rfl, o1, bb⟩
    have zz := bb.size
    try simp only [World.size_drew, World.size_alloc] at zz
    replace K0 : v2.cell? ⟨w.heap.size, 0, none⟩ = some (.slice a0 n0 c0) := ((bcell bb).1 _ _ (by first | omega | (simp; done) | (simp; omega))).trans (by first | exact K0 | (simp only [World.cell?_drew]; exact K0) | (simp [go_sem]; done))
    replace K1 : v2.cell? ⟨w.heap.size, 1, none⟩ = some (.slice a0' n0' c0') := ((bcell bb).1 _ _ (by first | omega | (simp; done) | (simp; omega))).trans (by first | exact K1 | (simp only [World.cell?_drew]; exact K1) | (simp [go_sem]; done))
    replace cb : Below w.heap.size w v2 := by first | exact cb.trans (bb.mono cb.size) | exact cb.drew.trans (bb.mono cb.drew.size)
    clear bb
    go_wp2_with fail
    refine (isBuilder_spec _ (OwnB.rd o1 (by omega)) (by omega) (by omega) hzn).mono ?_
    rintro e v3 ⟨V1, rfl, hv1, bb⟩
    have zz := bb.size
    try simp only [World.size_drew, World.size_alloc] at zz
    replace o1 := o1.below bb
    replace K0 : v3.cell? ⟨w.heap.size, 0, none⟩ = some (.slice a0 n0 c0) := ((bcell bb).1 _ _ (by first | omega | (simp; done) | (simp; omega))).trans (by first | exact K0 | (simp only [World.cell?_drew]; exact K0) | (simp [go_sem]; done))
    replace K1 : v3.cell? ⟨w.heap.size, 1, none⟩ = some (.slice a0' n0' c0') := ((bcell bb).1 _ _ (by first | omega | (simp; done) | (simp; omega))).trans (by first | exact K1 | (simp only [World.cell?_drew]; exact K1) | (simp [go_sem]; done))
    replace cb : Below w.heap.size w v3 := by first | exact cb.trans (bb.mono cb.size) | exact cb.drew.trans (bb.mono cb.drew.size)
    clear bb
    clear o1
    go_wp2_with fail
    refine (toBuilder_any ⟨l0, z0⟩ _ (hx0.next cb) (by omega) y03 (by omega)).mono ?_
    rintro e v4 ⟨Ao2, Co2, Do2, Eo2, Lo2, rfl, o2, bb⟩
    have zz := bb.size
    try simp only [World.size_drew, World.size_alloc] at zz
    replace K0 : v4.cell? ⟨w.heap.size, 0, none⟩ = some (.slice a0 n0 c0) := ((bcell bb).1 _ _ (by first | omega | (simp; done) | (simp; omega))).trans (by first | exact K0 | (simp only [World.cell?_drew]; exact K0) | (simp [go_sem]; done))
    replace K1 : v4.cell? ⟨w.heap.size, 1, none⟩ = some (.slice a0' n0' c0') := ((bcell bb).1 _ _ (by first | omega | (simp; done) | (simp; omega))).trans (by first | exact K1 | (simp only [World.cell?_drew]; exact K1) | (simp [go_sem]; done))
    replace cb : Below w.heap.size w v4 := by first | exact cb.trans (bb.mono cb.size) | exact cb.drew.trans (bb.mono cb.drew.size)
    clear bb
    replace K0 : (v4.alloc (.cells #[.slice Ao2 n0 Co2, .slice Do2 n0' Eo2] 52)).cell? ⟨w.heap.size, 0, none⟩ = some (.slice a0 n0 c0) := (World.cell?_alloc_some _ _ _ (by rw [K0]; rfl)).trans K0
    replace K1 : (v4.alloc (.cells #[.slice Ao2 n0 Co2, .slice Do2 n0' Eo2] 52)).cell? ⟨w.heap.size, 1, none⟩ = some (.slice a0' n0' c0') := (World.cell?_alloc_some _ _ _ (by rw [K1]; rfl)).trans K1
    have K2 : (v4.alloc (.cells #[.slice Ao2 n0 Co2, .slice Do2 n0' Eo2] 52)).cell? ⟨v4.heap.size, 0, none⟩ = some (.slice Ao2 n0 Co2) := by simp [go_sem]
    have K3 : (v4.alloc (.cells #[.slice Ao2 n0 Co2, .slice Do2 n0' Eo2] 52)).cell? ⟨v4.heap.size, 1, none⟩ = some (.slice Do2 n0' Eo2) := by simp [go_sem]
    replace o2 := o2.below ((Below.refl _ _).alloc (Nat.le_refl _) (.cells #[.slice Ao2 n0 Co2, .slice Do2 n0' Eo2] 52))
    replace cb : Below w.heap.size w (v4.alloc (.cells #[.slice Ao2 n0 Co2, .slice Do2 n0' Eo2] 52)) := cb.alloc cb.size (.cells #[.slice Ao2 n0 Co2, .slice Do2 n0' Eo2] 52)
    have zz : v4.heap.size < (v4.alloc (.cells #[.slice Ao2 n0 Co2, .slice Do2 n0' Eo2] 52)).heap.size := by simp
    go_wp2_with fail
    refine (isBuilder_impl _ (OwnB.rd o2 (by omega)) (by omega) (by omega) hzn).mono ?_
    rintro e v5 ⟨V2, rfl, hv2, bb⟩
    have zz := bb.size
    try simp only [World.size_drew, World.size_alloc] at zz
    replace o2 := o2.below bb
    replace K0 : v5.cell? ⟨w.heap.size, 0, none⟩ = some (.slice a0 n0 c0) := ((bcell bb).1 _ _ (by first | omega | (simp; done) | (simp; omega))).trans (by first | exact K0 | (simp only [World.cell?_drew]; exact K0) | (simp [go_sem]; done))
    replace K1 : v5.cell? ⟨w.heap.size, 1, none⟩ = some (.slice a0' n0' c0') := ((bcell bb).1 _ _ (by first | omega | (simp; done) | (simp; omega))).trans (by first | exact K1 | (simp only [World.cell?_drew]; exact K1) | (simp [go_sem]; done))
    replace K2 : v5.cell? ⟨v4.heap.size, 0, none⟩ = some (.slice Ao2 n0 Co2) := ((bcell bb).1 _ _ (by first | omega | (simp; done) | (simp; omega))).trans (by first | exact K2 | (simp only [World.cell?_drew]; exact K2) | (simp [go_sem]; done))
    replace K3 : v5.cell? ⟨v4.heap.size, 1, none⟩ = some (.slice Do2 n0' Eo2) := ((bcell bb).1 _ _ (by first | omega | (simp; done) | (simp; omega))).trans (by first | exact K3 | (simp only [World.cell?_drew]; exact K3) | (simp [go_sem]; done))
    replace cb : Below w.heap.size w v5 := by first | exact cb.trans (bb.mono cb.size) | exact cb.drew.trans (bb.mono cb.drew.size)
    clear bb
    have hvv : V1 = V2 := Bool.eq_iff_iff.2 (hv1.trans hv2.symm)
    clear hv1 hv2
    subst hvv
    have hbb : (V1 != V1) = false := by cases V1 <;> rfl
    go_wp2_with fail
    go_region_held3 (fun v : World => v.cell? ⟨w.heap.size, 0, none⟩ = some (.slice a0 n0 c0) ∧ v.cell? ⟨w.heap.size, 1, none⟩ = some (.slice a0' n0' c0') ∧ v.cell? ⟨v4.heap.size, 0, none⟩ = some (.slice Ao2 n0 Co2) ∧ v.cell? ⟨v4.heap.size, 1, none⟩ = some (.slice Do2 n0' Eo2))
      (first
        | exact ⟨K0, K1, K2, K3⟩
        | (refine ⟨?_, ?_, ?_, ?_⟩ <;> simp only [World.cell?_drew] <;> assumption))
      (first
        | (go_at_call 39
           refine (toBuilder_any ⟨l0, z0⟩ _ (by first | exact hx0.next cb | exact (hx0.next cb).drew) (by omega) y03 (by omega)).mono ?_
           rintro e v6 ⟨Ao3, Co3, Do3, Eo3, Lo3, rfl, o3, bb⟩
           have zz := bb.size
           try simp only [World.size_drew, World.size_alloc] at zz
           (first | replace o2 := o2.below bb | replace o2 := o2.drew.below bb)
           replace K0 : v6.cell? ⟨w.heap.size, 0, none⟩ = some (.slice a0 n0 c0) := ((bcell bb).1 _ _ (by first | omega | (simp; done) | (simp; omega))).trans (by first | exact K0 | (simp only [World.cell?_drew]; exact K0) | (simp [go_sem]; done))
           replace K1 : v6.cell? ⟨w.heap.size, 1, none⟩ = some (.slice a0' n0' c0') := ((bcell bb).1 _ _ (by first | omega | (simp; done) | (simp; omega))).trans (by first | exact K1 | (simp only [World.cell?_drew]; exact K1) | (simp [go_sem]; done))
           replace K2 : v6.cell? ⟨v4.heap.size, 0, none⟩ = some (.slice Ao2 n0 Co2) := ((bcell bb).1 _ _ (by first | omega | (simp; done) | (simp; omega))).trans (by first | exact K2 | (simp only [World.cell?_drew]; exact K2) | (simp [go_sem]; done))
           replace K3 : v6.cell? ⟨v4.heap.size, 1, none⟩ = some (.slice Do2 n0' Eo2) := ((bcell bb).1 _ _ (by first | omega | (simp; done) | (simp; omega))).trans (by first | exact K3 | (simp only [World.cell?_drew]; exact K3) | (simp [go_sem]; done))
           replace cb : Below w.heap.size w v6 := by first | exact cb.trans (bb.mono cb.size) | exact cb.drew.trans (bb.mono cb.drew.size)
           clear bb)
        | (go_at_call 34
           refine (eqBuilder_yes ⟨l0, z0⟩ _ (OwnB.rd o2 (by omega)) (OwnB.rd o3 (by omega)) (by omega) y03 (by omega)).mono ?_
           rintro e v7 ⟨rfl, bb⟩
           have zz := bb.size
           try simp only [World.size_drew, World.size_alloc] at zz
           (first | replace o2 := o2.below bb | replace o2 := o2.drew.below bb)
           (first | replace o3 := o3.below bb | replace o3 := o3.drew.below bb)
           replace K0 : v7.cell? ⟨w.heap.size, 0, none⟩ = some (.slice a0 n0 c0) := ((bcell bb).1 _ _ (by first | omega | (simp; done) | (simp; omega))).trans (by first | exact K0 | (simp only [World.cell?_drew]; exact K0) | (simp [go_sem]; done))
           replace K1 : v7.cell? ⟨w.heap.size, 1, none⟩ = some (.slice a0' n0' c0') := ((bcell bb).1 _ _ (by first | omega | (simp; done) | (simp; omega))).trans (by first | exact K1 | (simp only [World.cell?_drew]; exact K1) | (simp [go_sem]; done))
           replace K2 : v7.cell? ⟨v4.heap.size, 0, none⟩ = some (.slice Ao2 n0 Co2) := ((bcell bb).1 _ _ (by first | omega | (simp; done) | (simp; omega))).trans (by first | exact K2 | (simp only [World.cell?_drew]; exact K2) | (simp [go_sem]; done))
           replace K3 : v7.cell? ⟨v4.heap.size, 1, none⟩ = some (.slice Do2 n0' Eo2) := ((bcell bb).1 _ _ (by first | omega | (simp; done) | (simp; omega))).trans (by first | exact K3 | (simp only [World.cell?_drew]; exact K3) | (simp [go_sem]; done))
           replace cb : Below w.heap.size w v7 := by first | exact cb.trans (bb.mono cb.size) | exact cb.drew.trans (bb.mono cb.drew.size)
           clear bb))
    go_wp2
    go_ret
    exact ⟨rfl, cb⟩

end Go.Proofs.Ytflcknknkekkfaa
