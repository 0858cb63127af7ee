/-
  The walks of the generated laws of the functions NewBuilder, CountName and TextOf. No condition.
-/
import Derived.Test.YtflcknknkekkfaaCt
import Derived.Test.YtflcknknkekkfaaNop
import Derived.Test.YtflcknknkekkfaaLb2
import Derived.Deep.RegionHeld3
namespace Go.Proofs.Ytflcknknkekkfaa
set_option linter.unusedVariables false
set_option linter.unusedSimpArgs false
set_option maxRecDepth 100000
open Go.ChangeShapes Go.WideShapes Go.ChangeAt Go.RowKit Go.Deep


set_option maxHeartbeats 2000000 in
theorem fnExactNewBuilder_walk (w : World)  :
    Calls Try.prog 6 #[] w fun e w' => e = .returned (.bool true) ∧ Below w.heap.size w w' := by
  have cb : Below w.heap.size w w := Below.refl _ _
  go_enter Try.func6, Try.ntmps6
  have e2 : ∀ a ∈ newB.nodes, a.attrs.length ≤ 1073741824 := by intro a ha; simp [newB] at ha; subst ha; simp
  have e3 : totN (newB.nodes.map nodN.num) = 3 := by simp [newB, totN, nodN]
  go_wp2_with fail
  refine (newBuilder_spec _).mono ?_
  rintro e v1 ⟨Aow, Cow, Dow, Eow, Low, rfl, ow, bb⟩
  have zz := bb.size
  try simp only [World.size_drew, World.size_alloc] at zz
  replace cb : Below w.heap.size w v1 := by first | exact cb.trans (bb.mono cb.size) | exact cb.drew.trans (bb.mono cb.drew.size)
  clear bb
  have K0 : (v1.alloc (.cells #[.slice Aow 1 Cow, .slice Dow 1 Eow] 52)).cell? ⟨v1.heap.size, 0, none⟩ = some (.slice Aow 1 Cow) := by simp [go_sem]
  have K1 : (v1.alloc (.cells #[.slice Aow 1 Cow, .slice Dow 1 Eow] 52)).cell? ⟨v1.heap.size, 1, none⟩ = some (.slice Dow 1 Eow) := by simp [go_sem]
  replace ow := ow.below ((Below.refl _ _).alloc (Nat.le_refl _) (.cells #[.slice Aow 1 Cow, .slice Dow 1 Eow] 52))
  replace cb : Below w.heap.size w (v1.alloc (.cells #[.slice Aow 1 Cow, .slice Dow 1 Eow] 52)) := cb.alloc cb.size (.cells #[.slice Aow 1 Cow, .slice Dow 1 Eow] 52)
  have zz : v1.heap.size < (v1.alloc (.cells #[.slice Aow 1 Cow, .slice Dow 1 Eow] 52)).heap.size := by simp
  go_wp2_with fail
  refine (newBuilder_impl _).mono ?_
  rintro e v2 ⟨Aog, Cog, Dog, Eog, Log, rfl, og, bb⟩
  have zz := bb.size
  try simp only [World.size_drew, World.size_alloc] at zz
  replace ow := ow.below bb
  replace K0 : v2.cell? ⟨v1.heap.size, 0, none⟩ = some (.slice Aow 1 Cow) := ((bcell bb).1 _ _ (by first | omega | (simp; done) | (simp; omega))).trans (by first | exact K0 | (simp only [World.cell?_drew]; exact K0) | (simp [go_sem]; done))
  replace K1 : v2.cell? ⟨v1.heap.size, 1, none⟩ = some (.slice Dow 1 Eow) := ((bcell bb).1 _ _ (by first | omega | (simp; done) | (simp; omega))).trans (by first | exact K1 | (simp only [World.cell?_drew]; exact K1) | (simp [go_sem]; done))
  replace cb : Below w.heap.size w v2 := by first | exact cb.trans (bb.mono cb.size) | exact cb.drew.trans (bb.mono cb.drew.size)
  clear bb
  replace K0 : (v2.alloc (.cells #[.slice Aog 1 Cog, .slice Dog 1 Eog] 52)).cell? ⟨v1.heap.size, 0, none⟩ = some (.slice Aow 1 Cow) := (World.cell?_alloc_some _ _ _ (by rw [K0]; rfl)).trans K0
  replace K1 : (v2.alloc (.cells #[.slice Aog 1 Cog, .slice Dog 1 Eog] 52)).cell? ⟨v1.heap.size, 1, none⟩ = some (.slice Dow 1 Eow) := (World.cell?_alloc_some _ _ _ (by rw [K1]; rfl)).trans K1
  have K2 : (v2.alloc (.cells #[.slice Aog 1 Cog, .slice Dog 1 Eog] 52)).cell? ⟨v2.heap.size, 0, none⟩ = some (.slice Aog 1 Cog) := by simp [go_sem]
  have K3 : (v2.alloc (.cells #[.slice Aog 1 Cog, .slice Dog 1 Eog] 52)).cell? ⟨v2.heap.size, 1, none⟩ = some (.slice Dog 1 Eog) := by simp [go_sem]
  replace ow := ow.below ((Below.refl _ _).alloc (Nat.le_refl _) (.cells #[.slice Aog 1 Cog, .slice Dog 1 Eog] 52))
  replace og := og.below ((Below.refl _ _).alloc (Nat.le_refl _) (.cells #[.slice Aog 1 Cog, .slice Dog 1 Eog] 52))
  replace cb : Below w.heap.size w (v2.alloc (.cells #[.slice Aog 1 Cog, .slice Dog 1 Eog] 52)) := cb.alloc cb.size (.cells #[.slice Aog 1 Cog, .slice Dog 1 Eog] 52)
  have zz : v2.heap.size < (v2.alloc (.cells #[.slice Aog 1 Cog, .slice Dog 1 Eog] 52)).heap.size := by simp
  go_wp2_with fail
  refine (eqBuilder_yes newB _ (OwnB.rd og (by omega)) (OwnB.rd ow (by omega)) (by omega) e2 (by omega)).mono ?_
  rintro e v3 ⟨rfl, bb⟩
  have zz := bb.size
  try simp only [World.size_drew, World.size_alloc] at zz
  replace ow := ow.below bb
  replace og := og.below bb
  replace K0 : v3.cell? ⟨v1.heap.size, 0, none⟩ = some (.slice Aow 1 Cow) := ((bcell bb).1 _ _ (by first | omega | (simp; done) | (simp; omega))).trans (by first | exact K0 | (simp only [World.cell?_drew]; exact K0) | (simp [go_sem]; done))
  replace K1 : v3.cell? ⟨v1.heap.size, 1, none⟩ = some (.slice Dow 1 Eow) := ((bcell bb).1 _ _ (by first | omega | (simp; done) | (simp; omega))).trans (by first | exact K1 | (simp only [World.cell?_drew]; exact K1) | (simp [go_sem]; done))
  replace K2 : v3.cell? ⟨v2.heap.size, 0, none⟩ = some (.slice Aog 1 Cog) := ((bcell bb).1 _ _ (by first | omega | (simp; done) | (simp; omega))).trans (by first | exact K2 | (simp only [World.cell?_drew]; exact K2) | (simp [go_sem]; done))
  replace K3 : v3.cell? ⟨v2.heap.size, 1, none⟩ = some (.slice Dog 1 Eog) := ((bcell bb).1 _ _ (by first | omega | (simp; done) | (simp; omega))).trans (by first | exact K3 | (simp only [World.cell?_drew]; exact K3) | (simp [go_sem]; done))
  replace cb : Below w.heap.size w v3 := by first | exact cb.trans (bb.mono cb.size) | exact cb.drew.trans (bb.mono cb.drew.size)
  clear bb
  go_wp2_with fail
  refine (markBuilder_any _ og (by omega) (by omega) (by omega) (by omega) (by omega)).mono ?_
  rintro e v4 ⟨rfl, om, bb⟩
  have zz := bb.size
  try simp only [World.size_drew, World.size_alloc] at zz
  replace cb : Below w.heap.size w v4 := cb.trans (bb.below cb.size (fun k hk => by have := hk.1; omega))
  replace ow := ow.keep bb (fun k hk => by have h1 := hk.1; have h2 := hk.2; omega)
  replace K0 : v4.cell? ⟨v1.heap.size, 0, none⟩ = some (.slice Aow 1 Cow) := (keeps_cell bb (by omega) (fun hk => by have h1 := hk.1; have h2 := hk.2; omega)).trans K0
  replace K1 : v4.cell? ⟨v1.heap.size, 1, none⟩ = some (.slice Dow 1 Eow) := (keeps_cell bb (by omega) (fun hk => by have h1 := hk.1; have h2 := hk.2; omega)).trans K1
  replace K2 : v4.cell? ⟨v2.heap.size, 0, none⟩ = some (.slice Aog 1 Cog) := (keeps_cell bb (by omega) (fun hk => by have h1 := hk.1; have h2 := hk.2; omega)).trans K2
  replace K3 : v4.cell? ⟨v2.heap.size, 1, none⟩ = some (.slice Dog 1 Eog) := (keeps_cell bb (by omega) (fun hk => by have h1 := hk.1; have h2 := hk.2; omega)).trans K3
  clear bb
  clear og
  replace om := om.more (by omega : _ ≤ v4.heap.size)
  have tn := totN_nonneg (newB.nodes.map nodN.num)
  go_wp2_with fail
  refine (heldBuilder_any _ om (by omega) (by omega) (by omega) (by omega)).mono ?_
  rintro e v5 ⟨rfl, bb⟩
  have zz := bb.size
  try simp only [World.size_drew, World.size_alloc] at zz
  replace ow := ow.below bb
  replace om := om.next bb
  replace K0 : v5.cell? ⟨v1.heap.size, 0, none⟩ = some (.slice Aow 1 Cow) := ((bcell bb).1 _ _ (by first | omega | (simp; done) | (simp; omega))).trans (by first | exact K0 | (simp only [World.cell?_drew]; exact K0) | (simp [go_sem]; done))
  replace K1 : v5.cell? ⟨v1.heap.size, 1, none⟩ = some (.slice Dow 1 Eow) := ((bcell bb).1 _ _ (by first | omega | (simp; done) | (simp; omega))).trans (by first | exact K1 | (simp only [World.cell?_drew]; exact K1) | (simp [go_sem]; done))
  replace K2 : v5.cell? ⟨v2.heap.size, 0, none⟩ = some (.slice Aog 1 Cog) := ((bcell bb).1 _ _ (by first | omega | (simp; done) | (simp; omega))).trans (by first | exact K2 | (simp only [World.cell?_drew]; exact K2) | (simp [go_sem]; done))
  replace K3 : v5.cell? ⟨v2.heap.size, 1, none⟩ = some (.slice Dog 1 Eog) := ((bcell bb).1 _ _ (by first | omega | (simp; done) | (simp; omega))).trans (by first | exact K3 | (simp only [World.cell?_drew]; exact K3) | (simp [go_sem]; done))
  replace cb : Below w.heap.size w v5 := by first | exact cb.trans (bb.mono cb.size) | exact cb.drew.trans (bb.mono cb.drew.size)
  clear bb
  go_wp2_with fail
  refine (newBuilder_impl _).mono ?_
  rintro e v6 ⟨Aoh, Coh, Doh, Eoh, Loh, rfl, oh, bb⟩
  have zz := bb.size
  try simp only [World.size_drew, World.size_alloc] at zz
  replace ow := ow.below bb
  replace om := om.next bb
  replace K0 : v6.cell? ⟨v1.heap.size, 0, none⟩ = some (.slice Aow 1 Cow) := ((bcell bb).1 _ _ (by first | omega | (simp; done) | (simp; omega))).trans (by first | exact K0 | (simp only [World.cell?_drew]; exact K0) | (simp [go_sem]; done))
  replace K1 : v6.cell? ⟨v1.heap.size, 1, none⟩ = some (.slice Dow 1 Eow) := ((bcell bb).1 _ _ (by first | omega | (simp; done) | (simp; omega))).trans (by first | exact K1 | (simp only [World.cell?_drew]; exact K1) | (simp [go_sem]; done))
  replace K2 : v6.cell? ⟨v2.heap.size, 0, none⟩ = some (.slice Aog 1 Cog) := ((bcell bb).1 _ _ (by first | omega | (simp; done) | (simp; omega))).trans (by first | exact K2 | (simp only [World.cell?_drew]; exact K2) | (simp [go_sem]; done))
  replace K3 : v6.cell? ⟨v2.heap.size, 1, none⟩ = some (.slice Dog 1 Eog) := ((bcell bb).1 _ _ (by first | omega | (simp; done) | (simp; omega))).trans (by first | exact K3 | (simp only [World.cell?_drew]; exact K3) | (simp [go_sem]; done))
  replace cb : Below w.heap.size w v6 := by first | exact cb.trans (bb.mono cb.size) | exact cb.drew.trans (bb.mono cb.drew.size)
  clear bb
  replace K0 : (v6.alloc (.cells #[.slice Aoh 1 Coh, .slice Doh 1 Eoh] 52)).cell? ⟨v1.heap.size, 0, none⟩ = some (.slice Aow 1 Cow) := (World.cell?_alloc_some _ _ _ (by rw [K0]; rfl)).trans K0
  replace K1 : (v6.alloc (.cells #[.slice Aoh 1 Coh, .slice Doh 1 Eoh] 52)).cell? ⟨v1.heap.size, 1, none⟩ = some (.slice Dow 1 Eow) := (World.cell?_alloc_some _ _ _ (by rw [K1]; rfl)).trans K1
  replace K2 : (v6.alloc (.cells #[.slice Aoh 1 Coh, .slice Doh 1 Eoh] 52)).cell? ⟨v2.heap.size, 0, none⟩ = some (.slice Aog 1 Cog) := (World.cell?_alloc_some _ _ _ (by rw [K2]; rfl)).trans K2
  replace K3 : (v6.alloc (.cells #[.slice Aoh 1 Coh, .slice Doh 1 Eoh] 52)).cell? ⟨v2.heap.size, 1, none⟩ = some (.slice Dog 1 Eog) := (World.cell?_alloc_some _ _ _ (by rw [K3]; rfl)).trans K3
  have K4 : (v6.alloc (.cells #[.slice Aoh 1 Coh, .slice Doh 1 Eoh] 52)).cell? ⟨v6.heap.size, 0, none⟩ = some (.slice Aoh 1 Coh) := by simp [go_sem]
  have K5 : (v6.alloc (.cells #[.slice Aoh 1 Coh, .slice Doh 1 Eoh] 52)).cell? ⟨v6.heap.size, 1, none⟩ = some (.slice Doh 1 Eoh) := by simp [go_sem]
  replace ow := ow.below ((Below.refl _ _).alloc (Nat.le_refl _) (.cells #[.slice Aoh 1 Coh, .slice Doh 1 Eoh] 52))
  replace oh := oh.below ((Below.refl _ _).alloc (Nat.le_refl _) (.cells #[.slice Aoh 1 Coh, .slice Doh 1 Eoh] 52))
  replace om := om.next ((Below.refl _ _).alloc (Nat.le_refl _) (.cells #[.slice Aoh 1 Coh, .slice Doh 1 Eoh] 52))
  replace cb : Below w.heap.size w (v6.alloc (.cells #[.slice Aoh 1 Coh, .slice Doh 1 Eoh] 52)) := cb.alloc cb.size (.cells #[.slice Aoh 1 Coh, .slice Doh 1 Eoh] 52)
  have zz : v6.heap.size < (v6.alloc (.cells #[.slice Aoh 1 Coh, .slice Doh 1 Eoh] 52)).heap.size := by simp
  go_wp2_with fail
  refine (eqBuilder_yes newB _ (OwnB.rd oh (by omega)) (OwnB.rd ow (by omega)) (by omega) e2 (by omega)).mono ?_
  rintro e v7 ⟨rfl, bb⟩
  have zz := bb.size
  try simp only [World.size_drew, World.size_alloc] at zz
  replace ow := ow.below bb
  replace oh := oh.below bb
  replace om := om.next bb
  replace K0 : v7.cell? ⟨v1.heap.size, 0, none⟩ = some (.slice Aow 1 Cow) := ((bcell bb).1 _ _ (by first | omega | (simp; done) | (simp; omega))).trans (by first | exact K0 | (simp only [World.cell?_drew]; exact K0) | (simp [go_sem]; done))
  replace K1 : v7.cell? ⟨v1.heap.size, 1, none⟩ = some (.slice Dow 1 Eow) := ((bcell bb).1 _ _ (by first | omega | (simp; done) | (simp; omega))).trans (by first | exact K1 | (simp only [World.cell?_drew]; exact K1) | (simp [go_sem]; done))
  replace K2 : v7.cell? ⟨v2.heap.size, 0, none⟩ = some (.slice Aog 1 Cog) := ((bcell bb).1 _ _ (by first | omega | (simp; done) | (simp; omega))).trans (by first | exact K2 | (simp only [World.cell?_drew]; exact K2) | (simp [go_sem]; done))
  replace K3 : v7.cell? ⟨v2.heap.size, 1, none⟩ = some (.slice Dog 1 Eog) := ((bcell bb).1 _ _ (by first | omega | (simp; done) | (simp; omega))).trans (by first | exact K3 | (simp only [World.cell?_drew]; exact K3) | (simp [go_sem]; done))
  replace K4 : v7.cell? ⟨v6.heap.size, 0, none⟩ = some (.slice Aoh 1 Coh) := ((bcell bb).1 _ _ (by first | omega | (simp; done) | (simp; omega))).trans (by first | exact K4 | (simp only [World.cell?_drew]; exact K4) | (simp [go_sem]; done))
  replace K5 : v7.cell? ⟨v6.heap.size, 1, none⟩ = some (.slice Doh 1 Eoh) := ((bcell bb).1 _ _ (by first | omega | (simp; done) | (simp; omega))).trans (by first | exact K5 | (simp only [World.cell?_drew]; exact K5) | (simp [go_sem]; done))
  replace cb : Below w.heap.size w v7 := by first | exact cb.trans (bb.mono cb.size) | exact cb.drew.trans (bb.mono cb.drew.size)
  clear bb
  go_wp2_with fail
  refine (heldBuilder_any _ om (by omega) (by omega) (by omega) (by omega)).mono ?_
  rintro e v8 ⟨rfl, bb⟩
  have zz := bb.size
  try simp only [World.size_drew, World.size_alloc] at zz
  replace ow := ow.below bb
  replace oh := oh.below bb
  replace om := om.next bb
  replace K0 : v8.cell? ⟨v1.heap.size, 0, none⟩ = some (.slice Aow 1 Cow) := ((bcell bb).1 _ _ (by first | omega | (simp; done) | (simp; omega))).trans (by first | exact K0 | (simp only [World.cell?_drew]; exact K0) | (simp [go_sem]; done))
  replace K1 : v8.cell? ⟨v1.heap.size, 1, none⟩ = some (.slice Dow 1 Eow) := ((bcell bb).1 _ _ (by first | omega | (simp; done) | (simp; omega))).trans (by first | exact K1 | (simp only [World.cell?_drew]; exact K1) | (simp [go_sem]; done))
  replace K2 : v8.cell? ⟨v2.heap.size, 0, none⟩ = some (.slice Aog 1 Cog) := ((bcell bb).1 _ _ (by first | omega | (simp; done) | (simp; omega))).trans (by first | exact K2 | (simp only [World.cell?_drew]; exact K2) | (simp [go_sem]; done))
  replace K3 : v8.cell? ⟨v2.heap.size, 1, none⟩ = some (.slice Dog 1 Eog) := ((bcell bb).1 _ _ (by first | omega | (simp; done) | (simp; omega))).trans (by first | exact K3 | (simp only [World.cell?_drew]; exact K3) | (simp [go_sem]; done))
  replace K4 : v8.cell? ⟨v6.heap.size, 0, none⟩ = some (.slice Aoh 1 Coh) := ((bcell bb).1 _ _ (by first | omega | (simp; done) | (simp; omega))).trans (by first | exact K4 | (simp only [World.cell?_drew]; exact K4) | (simp [go_sem]; done))
  replace K5 : v8.cell? ⟨v6.heap.size, 1, none⟩ = some (.slice Doh 1 Eoh) := ((bcell bb).1 _ _ (by first | omega | (simp; done) | (simp; omega))).trans (by first | exact K5 | (simp only [World.cell?_drew]; exact K5) | (simp [go_sem]; done))
  replace cb : Below w.heap.size w v8 := by first | exact cb.trans (bb.mono cb.size) | exact cb.drew.trans (bb.mono cb.drew.size)
  clear bb
  go_wp2
  go_ret
  exact ⟨rfl, cb⟩

set_option maxHeartbeats 2000000 in
theorem fnExactCountName_walk (w : World) (a0 : Option Addr) (n0 c0 : Nat) (l0 : List Nod) (a0' : Option Addr) (n0' c0' : Nat) (z0 : List Int) (g0 : ArgB w a0 n0 l0 a0' n0' z0) (s1 : ByteArray) (g1 : s1.size ≤ maxLen) :
    Calls Try.prog 7 #[.agg #[.slice a0 n0 c0, .slice a0' n0' c0'], .string s1] w fun e w' => e = .returned (.bool true) ∧ Below w.heap.size w w' := by
  unfold maxLen at g1
  by_cases xx : 1048576 < s1.size
  · go_enter Try.func7, Try.ntmps7
    go_wp2
    go_ret
    exact ⟨rfl, (Below.refl _ _).alloc (Nat.le_refl _) _⟩
  have Xs1 : s1.size ≤ 1048576 := by omega
  clear xx
  obtain ⟨q01, q02, q03, q04, q05, q06, q07⟩ := g0
  have hx0 : ReadsB w w.heap.size a0 n0 a0' n0' ⟨l0, z0⟩ := ⟨q02, q06⟩
  clear q02 q06 q04
  have cb : Below w.heap.size w w := Below.refl _ _
  have K0 : (w.alloc (.cells #[.slice a0 n0 c0, .slice a0' n0' c0'] 59)).cell? ⟨w.heap.size, 0, none⟩ = some (.slice a0 n0 c0) := by simp [go_sem]
  have K1 : (w.alloc (.cells #[.slice a0 n0 c0, .slice a0' n0' c0'] 59)).cell? ⟨w.heap.size, 1, none⟩ = some (.slice a0' n0' c0') := by simp [go_sem]
  replace hx0 := hx0.next ((Below.refl _ _).alloc (Nat.le_refl _) (.cells #[.slice a0 n0 c0, .slice a0' n0' c0'] 59))
  replace cb : Below w.heap.size w (w.alloc (.cells #[.slice a0 n0 c0, .slice a0' n0' c0'] 59)) := cb.alloc cb.size (.cells #[.slice a0 n0 c0, .slice a0' n0' c0'] 59)
  have zz : w.heap.size < (w.alloc (.cells #[.slice a0 n0 c0, .slice a0' n0' c0'] 59)).heap.size := by simp
  go_enter Try.func7, Try.ntmps7
  go_wp2_with fail
  refine (szBuilder_any ⟨l0, z0⟩ _ hx0 q01 q03 q05 _ (by omega) (by omega)).mono ?_
  rintro e v1 ⟨r1, rfl, h1a, h1b, h1c, bb⟩
  have zz := bb.size
  try simp only [World.size_drew, World.size_alloc] at zz
  replace hx0 := hx0.next bb
  replace K0 : v1.cell? ⟨w.heap.size, 0, none⟩ = some (.slice a0 n0 c0) := ((bcell bb).1 _ _ (by first | omega | (simp; done) | (simp; omega))).trans (by first | exact K0 | (simp only [World.cell?_drew]; exact K0) | (simp [go_sem]; done))
  replace K1 : v1.cell? ⟨w.heap.size, 1, none⟩ = some (.slice a0' n0' c0') := ((bcell bb).1 _ _ (by first | omega | (simp; done) | (simp; omega))).trans (by first | exact K1 | (simp only [World.cell?_drew]; exact K1) | (simp [go_sem]; done))
  replace cb : Below w.heap.size w v1 := by first | exact cb.trans (bb.mono cb.size) | exact cb.drew.trans (bb.mono cb.drew.size)
  clear bb
  rcases Int.lt_or_le r1 0 with hneg | hpos
  · go_wp2
    go_ret
    exact ⟨rfl, cb⟩
  · have h1d := h1c hpos
    clear h1c
    have nb0 : 0 ≤ bldSz ⟨l0, z0⟩ := by have := nodsSz_nonneg l0; unfold bldSz; simp only; omega
    obtain ⟨y01, y02, y03, y04⟩ := bld_bounds hx0 (by omega)
    go_wp2_with fail
    refine (toBuilder_any ⟨l0, z0⟩ _ hx0 (by omega) y03 (by omega)).mono ?_
    rintro e v2 ⟨Ao1, Co1, Do1, Eo1, Lo1, rfl, o1, bb⟩
    have zz := bb.size
    try simp only [World.size_drew, World.size_alloc] at zz
    replace hx0 := hx0.next bb
    replace K0 : v2.cell? ⟨w.heap.size, 0, none⟩ = some (.slice a0 n0 c0) := ((bcell bb).1 _ _ (by first | omega | (simp; done) | (simp; omega))).trans (by first | exact K0 | (simp only [World.cell?_drew]; exact K0) | (simp [go_sem]; done))
    replace K1 : v2.cell? ⟨w.heap.size, 1, none⟩ = some (.slice a0' n0' c0') := ((bcell bb).1 _ _ (by first | omega | (simp; done) | (simp; omega))).trans (by first | exact K1 | (simp only [World.cell?_drew]; exact K1) | (simp [go_sem]; done))
    replace cb : Below w.heap.size w v2 := by first | exact cb.trans (bb.mono cb.size) | exact cb.drew.trans (bb.mono cb.drew.size)
    clear bb
    go_wp2_with fail
    refine (countName_spec ⟨l0, z0⟩ s1 _ (OwnB.rd o1 (by omega)) (by omega)).mono ?_
    rintro e v3 ⟨rfl, bb⟩
    have zz := bb.size
    try simp only [World.size_drew, World.size_alloc] at zz
    replace o1 := o1.below bb
    replace hx0 := hx0.next bb
    replace K0 : v3.cell? ⟨w.heap.size, 0, none⟩ = some (.slice a0 n0 c0) := ((bcell bb).1 _ _ (by first | omega | (simp; done) | (simp; omega))).trans (by first | exact K0 | (simp only [World.cell?_drew]; exact K0) | (simp [go_sem]; done))
    replace K1 : v3.cell? ⟨w.heap.size, 1, none⟩ = some (.slice a0' n0' c0') := ((bcell bb).1 _ _ (by first | omega | (simp; done) | (simp; omega))).trans (by first | exact K1 | (simp only [World.cell?_drew]; exact K1) | (simp [go_sem]; done))
    replace cb : Below w.heap.size w v3 := by first | exact cb.trans (bb.mono cb.size) | exact cb.drew.trans (bb.mono cb.drew.size)
    clear bb
    clear o1
    go_wp2_with fail
    refine (toBuilder_any ⟨l0, z0⟩ _ hx0 (by omega) y03 (by omega)).mono ?_
    rintro e v4 ⟨Ao2, Co2, Do2, Eo2, Lo2, rfl, o2, bb⟩
    have zz := bb.size
    try simp only [World.size_drew, World.size_alloc] at zz
    replace hx0 := hx0.next bb
    replace K0 : v4.cell? ⟨w.heap.size, 0, none⟩ = some (.slice a0 n0 c0) := ((bcell bb).1 _ _ (by first | omega | (simp; done) | (simp; omega))).trans (by first | exact K0 | (simp only [World.cell?_drew]; exact K0) | (simp [go_sem]; done))
    replace K1 : v4.cell? ⟨w.heap.size, 1, none⟩ = some (.slice a0' n0' c0') := ((bcell bb).1 _ _ (by first | omega | (simp; done) | (simp; omega))).trans (by first | exact K1 | (simp only [World.cell?_drew]; exact K1) | (simp [go_sem]; done))
    replace cb : Below w.heap.size w v4 := by first | exact cb.trans (bb.mono cb.size) | exact cb.drew.trans (bb.mono cb.drew.size)
    clear bb
    replace K0 : (v4.alloc (.cells #[.slice Ao2 n0 Co2, .slice Do2 n0' Eo2] 52)).cell? ⟨w.heap.size, 0, none⟩ = some (.slice a0 n0 c0) := (World.cell?_alloc_some _ _ _ (by rw [K0]; rfl)).trans K0
    replace K1 : (v4.alloc (.cells #[.slice Ao2 n0 Co2, .slice Do2 n0' Eo2] 52)).cell? ⟨w.heap.size, 1, none⟩ = some (.slice a0' n0' c0') := (World.cell?_alloc_some _ _ _ (by rw [K1]; rfl)).trans K1
    have K2 : (v4.alloc (.cells #[.slice Ao2 n0 Co2, .slice Do2 n0' Eo2] 52)).cell? ⟨v4.heap.size, 0, none⟩ = some (.slice Ao2 n0 Co2) := by simp [go_sem]
    have K3 : (v4.alloc (.cells #[.slice Ao2 n0 Co2, .slice Do2 n0' Eo2] 52)).cell? ⟨v4.heap.size, 1, none⟩ = some (.slice Do2 n0' Eo2) := by simp [go_sem]
    replace o2 := o2.below ((Below.refl _ _).alloc (Nat.le_refl _) (.cells #[.slice Ao2 n0 Co2, .slice Do2 n0' Eo2] 52))
    replace hx0 := hx0.next ((Below.refl _ _).alloc (Nat.le_refl _) (.cells #[.slice Ao2 n0 Co2, .slice Do2 n0' Eo2] 52))
    replace cb : Below w.heap.size w (v4.alloc (.cells #[.slice Ao2 n0 Co2, .slice Do2 n0' Eo2] 52)) := cb.alloc cb.size (.cells #[.slice Ao2 n0 Co2, .slice Do2 n0' Eo2] 52)
    have zz : v4.heap.size < (v4.alloc (.cells #[.slice Ao2 n0 Co2, .slice Do2 n0' Eo2] 52)).heap.size := by simp
    go_wp2_with fail
    refine (countName_impl ⟨l0, z0⟩ s1 _ (OwnB.rd o2 (by omega)) (by omega)).mono ?_
    rintro e v5 ⟨rfl, bb⟩
    have zz := bb.size
    try simp only [World.size_drew, World.size_alloc] at zz
    replace o2 := o2.below bb
    replace hx0 := hx0.next bb
    replace K0 : v5.cell? ⟨w.heap.size, 0, none⟩ = some (.slice a0 n0 c0) := ((bcell bb).1 _ _ (by first | omega | (simp; done) | (simp; omega))).trans (by first | exact K0 | (simp only [World.cell?_drew]; exact K0) | (simp [go_sem]; done))
    replace K1 : v5.cell? ⟨w.heap.size, 1, none⟩ = some (.slice a0' n0' c0') := ((bcell bb).1 _ _ (by first | omega | (simp; done) | (simp; omega))).trans (by first | exact K1 | (simp only [World.cell?_drew]; exact K1) | (simp [go_sem]; done))
    replace K2 : v5.cell? ⟨v4.heap.size, 0, none⟩ = some (.slice Ao2 n0 Co2) := ((bcell bb).1 _ _ (by first | omega | (simp; done) | (simp; omega))).trans (by first | exact K2 | (simp only [World.cell?_drew]; exact K2) | (simp [go_sem]; done))
    replace K3 : v5.cell? ⟨v4.heap.size, 1, none⟩ = some (.slice Do2 n0' Eo2) := ((bcell bb).1 _ _ (by first | omega | (simp; done) | (simp; omega))).trans (by first | exact K3 | (simp only [World.cell?_drew]; exact K3) | (simp [go_sem]; done))
    replace cb : Below w.heap.size w v5 := by first | exact cb.trans (bb.mono cb.size) | exact cb.drew.trans (bb.mono cb.drew.size)
    clear bb
    generalize cntN l0 s1 = CN
    go_wp2_with fail
    go_region_held3 (fun v : World => v.cell? ⟨w.heap.size, 0, none⟩ = some (.slice a0 n0 c0) ∧ v.cell? ⟨w.heap.size, 1, none⟩ = some (.slice a0' n0' c0') ∧ v.cell? ⟨v4.heap.size, 0, none⟩ = some (.slice Ao2 n0 Co2) ∧ v.cell? ⟨v4.heap.size, 1, none⟩ = some (.slice Do2 n0' Eo2))
      (first
        | exact ⟨K0, K1, K2, K3⟩
        | (refine ⟨?_, ?_, ?_, ?_⟩ <;> simp only [World.cell?_drew] <;> assumption))
      (first
        | (go_at_call 39
           refine (toBuilder_any ⟨l0, z0⟩ _ (by first | exact hx0 | exact hx0.drew) (by omega) y03 (by omega)).mono ?_
           rintro e v6 ⟨Ao3, Co3, Do3, Eo3, Lo3, rfl, o3, bb⟩
           have zz := bb.size
           try simp only [World.size_drew, World.size_alloc] at zz
           (first | replace o2 := o2.below bb | replace o2 := o2.drew.below bb)
           (first | replace hx0 := hx0.next bb | replace hx0 := hx0.drew.next bb)
           replace K0 : v6.cell? ⟨w.heap.size, 0, none⟩ = some (.slice a0 n0 c0) := ((bcell bb).1 _ _ (by first | omega | (simp; done) | (simp; omega))).trans (by first | exact K0 | (simp only [World.cell?_drew]; exact K0) | (simp [go_sem]; done))
           replace K1 : v6.cell? ⟨w.heap.size, 1, none⟩ = some (.slice a0' n0' c0') := ((bcell bb).1 _ _ (by first | omega | (simp; done) | (simp; omega))).trans (by first | exact K1 | (simp only [World.cell?_drew]; exact K1) | (simp [go_sem]; done))
           replace K2 : v6.cell? ⟨v4.heap.size, 0, none⟩ = some (.slice Ao2 n0 Co2) := ((bcell bb).1 _ _ (by first | omega | (simp; done) | (simp; omega))).trans (by first | exact K2 | (simp only [World.cell?_drew]; exact K2) | (simp [go_sem]; done))
           replace K3 : v6.cell? ⟨v4.heap.size, 1, none⟩ = some (.slice Do2 n0' Eo2) := ((bcell bb).1 _ _ (by first | omega | (simp; done) | (simp; omega))).trans (by first | exact K3 | (simp only [World.cell?_drew]; exact K3) | (simp [go_sem]; done))
           replace cb : Below w.heap.size w v6 := by first | exact cb.trans (bb.mono cb.size) | exact cb.drew.trans (bb.mono cb.drew.size)
           clear bb)
        | (go_at_call 34
           refine (eqBuilder_yes ⟨l0, z0⟩ _ (OwnB.rd o2 (by omega)) (OwnB.rd o3 (by omega)) (by omega) y03 (by omega)).mono ?_
           rintro e v7 ⟨rfl, bb⟩
           have zz := bb.size
           try simp only [World.size_drew, World.size_alloc] at zz
           (first | replace o2 := o2.below bb | replace o2 := o2.drew.below bb)
           (first | replace o3 := o3.below bb | replace o3 := o3.drew.below bb)
           (first | replace hx0 := hx0.next bb | replace hx0 := hx0.drew.next bb)
           replace K0 : v7.cell? ⟨w.heap.size, 0, none⟩ = some (.slice a0 n0 c0) := ((bcell bb).1 _ _ (by first | omega | (simp; done) | (simp; omega))).trans (by first | exact K0 | (simp only [World.cell?_drew]; exact K0) | (simp [go_sem]; done))
           replace K1 : v7.cell? ⟨w.heap.size, 1, none⟩ = some (.slice a0' n0' c0') := ((bcell bb).1 _ _ (by first | omega | (simp; done) | (simp; omega))).trans (by first | exact K1 | (simp only [World.cell?_drew]; exact K1) | (simp [go_sem]; done))
           replace K2 : v7.cell? ⟨v4.heap.size, 0, none⟩ = some (.slice Ao2 n0 Co2) := ((bcell bb).1 _ _ (by first | omega | (simp; done) | (simp; omega))).trans (by first | exact K2 | (simp only [World.cell?_drew]; exact K2) | (simp [go_sem]; done))
           replace K3 : v7.cell? ⟨v4.heap.size, 1, none⟩ = some (.slice Do2 n0' Eo2) := ((bcell bb).1 _ _ (by first | omega | (simp; done) | (simp; omega))).trans (by first | exact K3 | (simp only [World.cell?_drew]; exact K3) | (simp [go_sem]; done))
           replace cb : Below w.heap.size w v7 := by first | exact cb.trans (bb.mono cb.size) | exact cb.drew.trans (bb.mono cb.drew.size)
           clear bb))
    go_wp2
    go_ret
    exact ⟨rfl, cb⟩

set_option maxHeartbeats 2000000 in
theorem fnExactTextOf_walk (w : World) (a0 : Option Addr) (n0 c0 : Nat) (l0 : List Nod) (a0' : Option Addr) (n0' c0' : Nat) (z0 : List Int) (g0 : ArgB w a0 n0 l0 a0' n0' z0) (i1 : Int) (f1 : -9223372036854775808 ≤ i1) (f2 : i1 ≤ 9223372036854775807) :
    Calls Try.prog 8 #[.agg #[.slice a0 n0 c0, .slice a0' n0' c0'], .int .i64 i1] w fun e w' => e = .returned (.bool true) ∧ Below w.heap.size w w' := by
  obtain ⟨q01, q02, q03, q04, q05, q06, q07⟩ := g0
  have hx0 : ReadsB w w.heap.size a0 n0 a0' n0' ⟨l0, z0⟩ := ⟨q02, q06⟩
  clear q02 q06 q04
  have cb : Below w.heap.size w w := Below.refl _ _
  have K0 : (w.alloc (.cells #[.slice a0 n0 c0, .slice a0' n0' c0'] 59)).cell? ⟨w.heap.size, 0, none⟩ = some (.slice a0 n0 c0) := by simp [go_sem]
  have K1 : (w.alloc (.cells #[.slice a0 n0 c0, .slice a0' n0' c0'] 59)).cell? ⟨w.heap.size, 1, none⟩ = some (.slice a0' n0' c0') := by simp [go_sem]
  replace hx0 := hx0.next ((Below.refl _ _).alloc (Nat.le_refl _) (.cells #[.slice a0 n0 c0, .slice a0' n0' c0'] 59))
  replace cb : Below w.heap.size w (w.alloc (.cells #[.slice a0 n0 c0, .slice a0' n0' c0'] 59)) := cb.alloc cb.size (.cells #[.slice a0 n0 c0, .slice a0' n0' c0'] 59)
  have zz : w.heap.size < (w.alloc (.cells #[.slice a0 n0 c0, .slice a0' n0' c0'] 59)).heap.size := by simp
  go_enter Try.func8, Try.ntmps8
  go_wp2_with fail
  refine (szBuilder_any ⟨l0, z0⟩ _ hx0 q01 q03 q05 _ (by omega) (by omega)).mono ?_
  rintro e v1 ⟨r1, rfl, h1a, h1b, h1c, bb⟩
  have zz := bb.size
  try simp only [World.size_drew, World.size_alloc] at zz
  replace hx0 := hx0.next bb
  replace K0 : v1.cell? ⟨w.heap.size, 0, none⟩ = some (.slice a0 n0 c0) := ((bcell bb).1 _ _ (by first | omega | (simp; done) | (simp; omega))).trans (by first | exact K0 | (simp only [World.cell?_drew]; exact K0) | (simp [go_sem]; done))
  replace K1 : v1.cell? ⟨w.heap.size, 1, none⟩ = some (.slice a0' n0' c0') := ((bcell bb).1 _ _ (by first | omega | (simp; done) | (simp; omega))).trans (by first | exact K1 | (simp only [World.cell?_drew]; exact K1) | (simp [go_sem]; done))
  replace cb : Below w.heap.size w v1 := by first | exact cb.trans (bb.mono cb.size) | exact cb.drew.trans (bb.mono cb.drew.size)
  clear bb
  rcases Int.lt_or_le r1 0 with hneg | hpos
  · go_wp2
    go_ret
    exact ⟨rfl, cb⟩
  · have h1d := h1c hpos
    clear h1c
    have nb0 : 0 ≤ bldSz ⟨l0, z0⟩ := by have := nodsSz_nonneg l0; unfold bldSz; simp only; omega
    obtain ⟨y01, y02, y03, y04⟩ := bld_bounds hx0 (by omega)
    go_wp2_with fail
    refine (toBuilder_any ⟨l0, z0⟩ _ hx0 (by omega) y03 (by omega)).mono ?_
    rintro e v2 ⟨Ao1, Co1, Do1, Eo1, Lo1, rfl, o1, bb⟩
    have zz := bb.size
    try simp only [World.size_drew, World.size_alloc] at zz
    replace hx0 := hx0.next bb
    replace K0 : v2.cell? ⟨w.heap.size, 0, none⟩ = some (.slice a0 n0 c0) := ((bcell bb).1 _ _ (by first | omega | (simp; done) | (simp; omega))).trans (by first | exact K0 | (simp only [World.cell?_drew]; exact K0) | (simp [go_sem]; done))
    replace K1 : v2.cell? ⟨w.heap.size, 1, none⟩ = some (.slice a0' n0' c0') := ((bcell bb).1 _ _ (by first | omega | (simp; done) | (simp; omega))).trans (by first | exact K1 | (simp only [World.cell?_drew]; exact K1) | (simp [go_sem]; done))
    replace cb : Below w.heap.size w v2 := by first | exact cb.trans (bb.mono cb.size) | exact cb.drew.trans (bb.mono cb.drew.size)
    clear bb
    go_wp2_with fail
    refine (textOf_spec ⟨l0, z0⟩ i1 _ (OwnB.rd o1 (by omega)) (by omega) (Int.le_trans y04 (by omega)) f1 f2).mono ?_
    rintro e v3 ⟨rfl, bb⟩
    have zz := bb.size
    try simp only [World.size_drew, World.size_alloc] at zz
    replace o1 := o1.below bb
    replace hx0 := hx0.next bb
    replace K0 : v3.cell? ⟨w.heap.size, 0, none⟩ = some (.slice a0 n0 c0) := ((bcell bb).1 _ _ (by first | omega | (simp; done) | (simp; omega))).trans (by first | exact K0 | (simp only [World.cell?_drew]; exact K0) | (simp [go_sem]; done))
    replace K1 : v3.cell? ⟨w.heap.size, 1, none⟩ = some (.slice a0' n0' c0') := ((bcell bb).1 _ _ (by first | omega | (simp; done) | (simp; omega))).trans (by first | exact K1 | (simp only [World.cell?_drew]; exact K1) | (simp [go_sem]; done))
    replace cb : Below w.heap.size w v3 := by first | exact cb.trans (bb.mono cb.size) | exact cb.drew.trans (bb.mono cb.drew.size)
    clear bb
    clear o1
    go_wp2_with fail
    refine (toBuilder_any ⟨l0, z0⟩ _ hx0 (by omega) y03 (by omega)).mono ?_
    rintro e v4 ⟨Ao2, Co2, Do2, Eo2, Lo2, rfl, o2, bb⟩
    have zz := bb.size
    try simp only [World.size_drew, World.size_alloc] at zz
    replace hx0 := hx0.next bb
    replace K0 : v4.cell? ⟨w.heap.size, 0, none⟩ = some (.slice a0 n0 c0) := ((bcell bb).1 _ _ (by first | omega | (simp; done) | (simp; omega))).trans (by first | exact K0 | (simp only [World.cell?_drew]; exact K0) | (simp [go_sem]; done))
    replace K1 : v4.cell? ⟨w.heap.size, 1, none⟩ = some (.slice a0' n0' c0') := ((bcell bb).1 _ _ (by first | omega | (simp; done) | (simp; omega))).trans (by first | exact K1 | (simp only [World.cell?_drew]; exact K1) | (simp [go_sem]; done))
    replace cb : Below w.heap.size w v4 := by first | exact cb.trans (bb.mono cb.size) | exact cb.drew.trans (bb.mono cb.drew.size)
    clear bb
    replace K0 : (v4.alloc (.cells #[.slice Ao2 n0 Co2, .slice Do2 n0' Eo2] 52)).cell? ⟨w.heap.size, 0, none⟩ = some (.slice a0 n0 c0) := (World.cell?_alloc_some _ _ _ (by rw [K0]; rfl)).trans K0
    replace K1 : (v4.alloc (.cells #[.slice Ao2 n0 Co2, .slice Do2 n0' Eo2] 52)).cell? ⟨w.heap.size, 1, none⟩ = some (.slice a0' n0' c0') := (World.cell?_alloc_some _ _ _ (by rw [K1]; rfl)).trans K1
    have K2 : (v4.alloc (.cells #[.slice Ao2 n0 Co2, .slice Do2 n0' Eo2] 52)).cell? ⟨v4.heap.size, 0, none⟩ = some (.slice Ao2 n0 Co2) := by simp [go_sem]
    have K3 : (v4.alloc (.cells #[.slice Ao2 n0 Co2, .slice Do2 n0' Eo2] 52)).cell? ⟨v4.heap.size, 1, none⟩ = some (.slice Do2 n0' Eo2) := by simp [go_sem]
    replace o2 := o2.below ((Below.refl _ _).alloc (Nat.le_refl _) (.cells #[.slice Ao2 n0 Co2, .slice Do2 n0' Eo2] 52))
    replace hx0 := hx0.next ((Below.refl _ _).alloc (Nat.le_refl _) (.cells #[.slice Ao2 n0 Co2, .slice Do2 n0' Eo2] 52))
    replace cb : Below w.heap.size w (v4.alloc (.cells #[.slice Ao2 n0 Co2, .slice Do2 n0' Eo2] 52)) := cb.alloc cb.size (.cells #[.slice Ao2 n0 Co2, .slice Do2 n0' Eo2] 52)
    have zz : v4.heap.size < (v4.alloc (.cells #[.slice Ao2 n0 Co2, .slice Do2 n0' Eo2] 52)).heap.size := by simp
    go_wp2_with fail
    refine (textOf_impl ⟨l0, z0⟩ i1 _ (OwnB.rd o2 (by omega)) (by omega) (Int.le_trans y04 (by omega)) f1 f2).mono ?_
    rintro e v5 ⟨rfl, bb⟩
    have zz := bb.size
    try simp only [World.size_drew, World.size_alloc] at zz
    replace o2 := o2.below bb
    replace hx0 := hx0.next bb
    replace K0 : v5.cell? ⟨w.heap.size, 0, none⟩ = some (.slice a0 n0 c0) := ((bcell bb).1 _ _ (by first | omega | (simp; done) | (simp; omega))).trans (by first | exact K0 | (simp only [World.cell?_drew]; exact K0) | (simp [go_sem]; done))
    replace K1 : v5.cell? ⟨w.heap.size, 1, none⟩ = some (.slice a0' n0' c0') := ((bcell bb).1 _ _ (by first | omega | (simp; done) | (simp; omega))).trans (by first | exact K1 | (simp only [World.cell?_drew]; exact K1) | (simp [go_sem]; done))
    replace K2 : v5.cell? ⟨v4.heap.size, 0, none⟩ = some (.slice Ao2 n0 Co2) := ((bcell bb).1 _ _ (by first | omega | (simp; done) | (simp; omega))).trans (by first | exact K2 | (simp only [World.cell?_drew]; exact K2) | (simp [go_sem]; done))
    replace K3 : v5.cell? ⟨v4.heap.size, 1, none⟩ = some (.slice Do2 n0' Eo2) := ((bcell bb).1 _ _ (by first | omega | (simp; done) | (simp; omega))).trans (by first | exact K3 | (simp only [World.cell?_drew]; exact K3) | (simp [go_sem]; done))
    replace cb : Below w.heap.size w v5 := by first | exact cb.trans (bb.mono cb.size) | exact cb.drew.trans (bb.mono cb.drew.size)
    clear bb
    generalize textN l0 i1 = TN
    go_wp2_with fail
    go_region_held3 (fun v : World => v.cell? ⟨w.heap.size, 0, none⟩ = some (.slice a0 n0 c0) ∧ v.cell? ⟨w.heap.size, 1, none⟩ = some (.slice a0' n0' c0') ∧ v.cell? ⟨v4.heap.size, 0, none⟩ = some (.slice Ao2 n0 Co2) ∧ v.cell? ⟨v4.heap.size, 1, none⟩ = some (.slice Do2 n0' Eo2))
      (first
        | exact ⟨K0, K1, K2, K3⟩
        | (refine ⟨?_, ?_, ?_, ?_⟩ <;> simp only [World.cell?_drew] <;> assumption))
      (first
        | (go_at_call 39
           refine (toBuilder_any ⟨l0, z0⟩ _ (by first | exact hx0 | exact hx0.drew) (by omega) y03 (by omega)).mono ?_
           rintro e v6 ⟨Ao3, Co3, Do3, Eo3, Lo3, rfl, o3, bb⟩
           have zz := bb.size
           try simp only [World.size_drew, World.size_alloc] at zz
           (first | replace o2 := o2.below bb | replace o2 := o2.drew.below bb)
           (first | replace hx0 := hx0.next bb | replace hx0 := hx0.drew.next bb)
           replace K0 : v6.cell? ⟨w.heap.size, 0, none⟩ = some (.slice a0 n0 c0) := ((bcell bb).1 _ _ (by first | omega | (simp; done) | (simp; omega))).trans (by first | exact K0 | (simp only [World.cell?_drew]; exact K0) | (simp [go_sem]; done))
           replace K1 : v6.cell? ⟨w.heap.size, 1, none⟩ = some (.slice a0' n0' c0') := ((bcell bb).1 _ _ (by first | omega | (simp; done) | (simp; omega))).trans (by first | exact K1 | (simp only [World.cell?_drew]; exact K1) | (simp [go_sem]; done))
           replace K2 : v6.cell? ⟨v4.heap.size, 0, none⟩ = some (.slice Ao2 n0 Co2) := ((bcell bb).1 _ _ (by first | omega | (simp; done) | (simp; omega))).trans (by first | exact K2 | (simp only [World.cell?_drew]; exact K2) | (simp [go_sem]; done))
           replace K3 : v6.cell? ⟨v4.heap.size, 1, none⟩ = some (.slice Do2 n0' Eo2) := ((bcell bb).1 _ _ (by first | omega | (simp; done) | (simp; omega))).trans (by first | exact K3 | (simp only [World.cell?_drew]; exact K3) | (simp [go_sem]; done))
           replace cb : Below w.heap.size w v6 := by first | exact cb.trans (bb.mono cb.size) | exact cb.drew.trans (bb.mono cb.drew.size)
           clear bb)
        | (go_at_call 34
           refine (eqBuilder_yes ⟨l0, z0⟩ _ (OwnB.rd o2 (by omega)) (OwnB.rd o3 (by omega)) (by omega) y03 (by omega)).mono ?_
           rintro e v7 ⟨rfl, bb⟩
           have zz := bb.size
           try simp only [World.size_drew, World.size_alloc] at zz
           (first | replace o2 := o2.below bb | replace o2 := o2.drew.below bb)
           (first | replace o3 := o3.below bb | replace o3 := o3.drew.below bb)
           (first | replace hx0 := hx0.next bb | replace hx0 := hx0.drew.next bb)
           replace K0 : v7.cell? ⟨w.heap.size, 0, none⟩ = some (.slice a0 n0 c0) := ((bcell bb).1 _ _ (by first | omega | (simp; done) | (simp; omega))).trans (by first | exact K0 | (simp only [World.cell?_drew]; exact K0) | (simp [go_sem]; done))
           replace K1 : v7.cell? ⟨w.heap.size, 1, none⟩ = some (.slice a0' n0' c0') := ((bcell bb).1 _ _ (by first | omega | (simp; done) | (simp; omega))).trans (by first | exact K1 | (simp only [World.cell?_drew]; exact K1) | (simp [go_sem]; done))
           replace K2 : v7.cell? ⟨v4.heap.size, 0, none⟩ = some (.slice Ao2 n0 Co2) := ((bcell bb).1 _ _ (by first | omega | (simp; done) | (simp; omega))).trans (by first | exact K2 | (simp only [World.cell?_drew]; exact K2) | (simp [go_sem]; done))
           replace K3 : v7.cell? ⟨v4.heap.size, 1, none⟩ = some (.slice Do2 n0' Eo2) := ((bcell bb).1 _ _ (by first | omega | (simp; done) | (simp; omega))).trans (by first | exact K3 | (simp only [World.cell?_drew]; exact K3) | (simp [go_sem]; done))
           replace cb : Below w.heap.size w v7 := by first | exact cb.trans (bb.mono cb.size) | exact cb.drew.trans (bb.mono cb.drew.size)
           clear bb))
    go_wp2
    go_ret
    exact ⟨rfl, cb⟩

end Go.Proofs.Ytflcknknkekkfaa
