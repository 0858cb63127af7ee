/-
  The walk of the generated law of the function EndText. No condition.
-/
import Derived.Test.YtflcknknkekkfaaEt
import Derived.Deep.RegionHeld3
namespace Go.Proofs.Ytflcknknkekkfaa
set_option linter.unusedVariables false
set_option linter.unusedSimpArgs false
set_option maxRecDepth 100000
open Go.ChangeShapes Go.WideShapes Go.ChangeAt Go.RowKit Go.Deep

theorem OwnN.rd {α : Type} {N : Nest α} {w : World} {lo hi n c : Nat} {e ek : TypeId} {A : Option Addr} {L : List (α × Hd)} {l : List α} (h : OwnN N w lo hi e ek A n c L) (hL : L.map (·.1) = l) (hh : hi ≤ w.heap.size) : ReadsN N w w.heap.size A n l := by
  subst hL
  exact (h.reads hh).more hh
theorem nums_of {α : Type} {N : Nest α} {L : List (α × Hd)} {l : List α} (hL : L.map (·.1) = l) : N.nums L = l.map N.num := by
  subst hL
  simp [Nest.nums]
theorem endToks_len (s : ByteArray) : (endToks s).length ≤ 1 := by unfold endToks; split <;> simp
theorem endToks_attrs (s : ByteArray) : ∀ a ∈ endToks s, a.attrs.length ≤ 1073741824 := by
  unfold endToks
  split
  · simp
  · intro a ha; simp at ha; subst ha; simp
theorem endToks_tot (s : ByteArray) : totN ((endToks s).map tokN.num) ≤ 3 := by
  unfold endToks
  split
  · simp [totN]
  · simp [totN, tokN]

set_option maxHeartbeats 2000000 in
theorem fnExactEndText_walk (w : World) (s0 : ByteArray) (g0 : s0.size ≤ maxLen) :
    Calls Try.prog 5 #[.agg #[.string s0]] w fun e w' => e = .returned (.bool true) ∧ Below w.heap.size w w' := by
  unfold maxLen at g0
  have e1 := endToks_len s0
  have e2 := endToks_attrs s0
  have e3 := endToks_tot s0
  have cb : Below w.heap.size w w := Below.refl _ _
  have K0 : (w.alloc (.cells #[.string s0] 40)).cell? ⟨w.heap.size, 0, none⟩ = some (.string s0) := by simp [go_sem]
  replace cb : Below w.heap.size w (w.alloc (.cells #[.string s0] 40)) := cb.alloc cb.size (.cells #[.string s0] 40)
  have zz : w.heap.size < (w.alloc (.cells #[.string s0] 40)).heap.size := by simp
  go_enter Try.func5, Try.ntmps5
  go_wp2_with fail
  refine (szTokenizer_any s0 (by omega) _ (by omega) (by omega) _).mono ?_
  rintro e v1 ⟨r1, rfl, h1a, h1b, h1c, bb⟩
  have zz := bb.size
  try simp only [World.size_drew, World.size_alloc] at zz
  replace K0 : v1.cell? ⟨w.heap.size, 0, none⟩ = some (.string s0) := ((bcell bb).1 _ _ (by first | omega | (simp; done) | (simp; omega))).trans (by first | exact K0 | (simp only [World.cell?_drew]; exact K0) | (simp [go_sem]; done))
  replace cb : Below w.heap.size w v1 := by first | exact cb.trans (bb.mono cb.size) | exact cb.drew.trans (bb.mono cb.drew.size)
  clear bb
  rcases Int.lt_or_le r1 0 with hneg | hpos
  · go_wp2
    go_ret
    exact ⟨rfl, cb⟩
  · have h1d := h1c hpos
    clear h1c
    go_wp2_with fail
    refine (toTokenizer_any _ _).mono ?_
    rintro e v2 ⟨rfl, bb⟩
    have zz := bb.size
    try simp only [World.size_drew, World.size_alloc] at zz
    replace K0 : v2.cell? ⟨w.heap.size, 0, none⟩ = some (.string s0) := ((bcell bb).1 _ _ (by first | omega | (simp; done) | (simp; omega))).trans (by first | exact K0 | (simp only [World.cell?_drew]; exact K0) | (simp [go_sem]; done))
    replace cb : Below w.heap.size w v2 := by first | exact cb.trans (bb.mono cb.size) | exact cb.drew.trans (bb.mono cb.drew.size)
    clear bb
    go_wp2_with fail
    refine (endText_spec s0 _ (by omega)).mono ?_
    rintro e v3 ⟨Aow, Cow, Low, rfl, how, ow, bb⟩
    have zz := bb.size
    try simp only [World.size_drew, World.size_alloc] at zz
    replace K0 : v3.cell? ⟨w.heap.size, 0, none⟩ = some (.string s0) := ((bcell bb).1 _ _ (by first | omega | (simp; done) | (simp; omega))).trans (by first | exact K0 | (simp only [World.cell?_drew]; exact K0) | (simp [go_sem]; done))
    replace cb : Below w.heap.size w v3 := by first | exact cb.trans (bb.mono cb.size) | exact cb.drew.trans (bb.mono cb.drew.size)
    clear bb
    go_wp2_with fail
    refine (toTokenizer_any _ _).mono ?_
    rintro e v4 ⟨rfl, bb⟩
    have zz := bb.size
    try simp only [World.size_drew, World.size_alloc] at zz
    replace ow := ow.below bb
    replace K0 : v4.cell? ⟨w.heap.size, 0, none⟩ = some (.string s0) := ((bcell bb).1 _ _ (by first | omega | (simp; done) | (simp; omega))).trans (by first | exact K0 | (simp only [World.cell?_drew]; exact K0) | (simp [go_sem]; done))
    replace cb : Below w.heap.size w v4 := by first | exact cb.trans (bb.mono cb.size) | exact cb.drew.trans (bb.mono cb.drew.size)
    clear bb
    go_wp2_with fail
    refine (endText_impl s0 _ (by omega)).mono ?_
    rintro e v5 ⟨Aog, Cog, Log, rfl, hog, og, bb⟩
    have zz := bb.size
    try simp only [World.size_drew, World.size_alloc] at zz
    replace ow := ow.below bb
    replace K0 : v5.cell? ⟨w.heap.size, 0, none⟩ = some (.string s0) := ((bcell bb).1 _ _ (by first | omega | (simp; done) | (simp; omega))).trans (by first | exact K0 | (simp only [World.cell?_drew]; exact K0) | (simp [go_sem]; done))
    replace cb : Below w.heap.size w v5 := by first | exact cb.trans (bb.mono cb.size) | exact cb.drew.trans (bb.mono cb.drew.size)
    clear bb
    go_wp2_with fail
    refine (eqTokenS_yes _ (OwnN.rd og hog (by omega)) (OwnN.rd ow how (by omega)) (by omega) e2).mono ?_
    rintro e v6 ⟨rfl, bb⟩
    have zz := bb.size
    try simp only [World.size_drew, World.size_alloc] at zz
    replace ow := ow.below bb
    replace og := og.below bb
    replace K0 : v6.cell? ⟨w.heap.size, 0, none⟩ = some (.string s0) := ((bcell bb).1 _ _ (by first | omega | (simp; done) | (simp; omega))).trans (by first | exact K0 | (simp only [World.cell?_drew]; exact K0) | (simp [go_sem]; done))
    replace cb : Below w.heap.size w v6 := by first | exact cb.trans (bb.mono cb.size) | exact cb.drew.trans (bb.mono cb.drew.size)
    clear bb
    have en := nums_of (N := tokN) hog
    go_wp2_with fail
    refine (markTokenS_any _ og (by omega) (by omega) (by omega) (by rw [en]; omega)).mono ?_
    rintro e v7 ⟨rfl, om, bb⟩
    have zz := bb.size
    try simp only [World.size_drew, World.size_alloc] at zz
    replace cb : Below w.heap.size w v7 := cb.trans (bb.below cb.size (fun k hk => by have := hk.1; omega))
    replace ow := ow.keep bb (fun k hk => by have h1 := hk.1; have h2 := hk.2; omega)
    replace K0 : v7.cell? ⟨w.heap.size, 0, none⟩ = some (.string s0) := (keeps_cell bb (by omega) (fun hk => by have h1 := hk.1; have h2 := hk.2; omega)).trans K0
    clear bb
    clear og
    replace om := om.more (by omega : _ ≤ v7.heap.size)
    rw [en] at om
    rw [en]
    go_wp2_with fail
    refine (heldTokenS_any _ om (by omega) (by omega) (by omega)).mono ?_
    rintro e v8 ⟨rfl, bb⟩
    have zz := bb.size
    try simp only [World.size_drew, World.size_alloc] at zz
    replace ow := ow.below bb
    replace om := om.next bb
    replace K0 : v8.cell? ⟨w.heap.size, 0, none⟩ = some (.string s0) := ((bcell bb).1 _ _ (by first | omega | (simp; done) | (simp; omega))).trans (by first | exact K0 | (simp only [World.cell?_drew]; exact K0) | (simp [go_sem]; done))
    replace cb : Below w.heap.size w v8 := by first | exact cb.trans (bb.mono cb.size) | exact cb.drew.trans (bb.mono cb.drew.size)
    clear bb
    have tn := totN_nonneg ((endToks s0).map tokN.num)
    go_wp2_with fail
    refine (toTokenizer_any _ _).mono ?_
    rintro e v9 ⟨rfl, bb⟩
    have zz := bb.size
    try simp only [World.size_drew, World.size_alloc] at zz
    replace ow := ow.below bb
    replace om := om.next bb
    replace K0 : v9.cell? ⟨w.heap.size, 0, none⟩ = some (.string s0) := ((bcell bb).1 _ _ (by first | omega | (simp; done) | (simp; omega))).trans (by first | exact K0 | (simp only [World.cell?_drew]; exact K0) | (simp [go_sem]; done))
    replace cb : Below w.heap.size w v9 := by first | exact cb.trans (bb.mono cb.size) | exact cb.drew.trans (bb.mono cb.drew.size)
    clear bb
    go_wp2_with fail
    refine (endText_impl s0 _ (by omega)).mono ?_
    rintro e v10 ⟨Aoh, Coh, Loh, rfl, hoh, oh, bb⟩
    have zz := bb.size
    try simp only [World.size_drew, World.size_alloc] at zz
    replace ow := ow.below bb
    replace om := om.next bb
    replace K0 : v10.cell? ⟨w.heap.size, 0, none⟩ = some (.string s0) := ((bcell bb).1 _ _ (by first | omega | (simp; done) | (simp; omega))).trans (by first | exact K0 | (simp only [World.cell?_drew]; exact K0) | (simp [go_sem]; done))
    replace cb : Below w.heap.size w v10 := by first | exact cb.trans (bb.mono cb.size) | exact cb.drew.trans (bb.mono cb.drew.size)
    clear bb
    go_wp2_with fail
    refine (eqTokenS_yes _ (OwnN.rd oh hoh (by omega)) (OwnN.rd ow how (by omega)) (by omega) e2).mono ?_
    rintro e v11 ⟨rfl, bb⟩
    have zz := bb.size
    try simp only [World.size_drew, World.size_alloc] at zz
    replace ow := ow.below bb
    replace oh := oh.below bb
    replace om := om.next bb
    replace K0 : v11.cell? ⟨w.heap.size, 0, none⟩ = some (.string s0) := ((bcell bb).1 _ _ (by first | omega | (simp; done) | (simp; omega))).trans (by first | exact K0 | (simp only [World.cell?_drew]; exact K0) | (simp [go_sem]; done))
    replace cb : Below w.heap.size w v11 := by first | exact cb.trans (bb.mono cb.size) | exact cb.drew.trans (bb.mono cb.drew.size)
    clear bb
    go_wp2_with fail
    refine (heldTokenS_any _ om (by omega) (by omega) (by omega)).mono ?_
    rintro e v12 ⟨rfl, bb⟩
    have zz := bb.size
    try simp only [World.size_drew, World.size_alloc] at zz
    replace ow := ow.below bb
    replace oh := oh.below bb
    replace om := om.next bb
    replace K0 : v12.cell? ⟨w.heap.size, 0, none⟩ = some (.string s0) := ((bcell bb).1 _ _ (by first | omega | (simp; done) | (simp; omega))).trans (by first | exact K0 | (simp only [World.cell?_drew]; exact K0) | (simp [go_sem]; done))
    replace cb : Below w.heap.size w v12 := by first | exact cb.trans (bb.mono cb.size) | exact cb.drew.trans (bb.mono cb.drew.size)
    clear bb
    go_wp2
    go_ret
    exact ⟨rfl, cb⟩

end Go.Proofs.Ytflcknknkekkfaa
