/-
  The walk of the generated law of the function FeedText. Condition: the library's MaxLen holds some integer.
-/
import Derived.Test.YtkmechjilekcmaaDoorFdi
import Derived.Test.YtkmechjilekcmaaDoorLg
import Derived.Deep.RegionHeld3
namespace Go.Proofs.YtkmechjilekcmaaDoor
set_option linter.unusedVariables false
set_option linter.unusedSimpArgs false
set_option maxRecDepth 100000
open Go.ChangeShapes Go.WideShapes Go.ChangeAt Go.RowKit Go.Deep

theorem stepF_toks {x y : ByteArray} {l : List Tok} (h : stepF x = some (y, l)) : l.length ≤ 1 ∧ ∀ a ∈ l, a.attrs.length ≤ 4 := by
  unfold stepF at h
  split at h
  · split at h
    · injection h with h
      injection h with _ h
      subst h
      split
      · exact ⟨by simp, fun a ha => by simp at ha; subst ha; exact tagT_attrs _⟩
      · exact ⟨by simp, by simp⟩
    · cases h
  · split at h
    · injection h with h
      injection h with _ h
      subst h
      exact ⟨by simp, by simp⟩
    · cases h
theorem feedN_toks : ∀ (f : Nat) (x : ByteArray), (feedN f x).1.length ≤ x.size ∧ (∀ a ∈ (feedN f x).1, a.attrs.length ≤ 4) ∧ (feedN f x).2.size ≤ x.size
  | 0, x => ⟨by simp [feedN], by simp [feedN], by simp [feedN]⟩
  | f + 1, x => by
    cases h : stepF x with
    | none => rw [feedN_stop h]; exact ⟨by simp, by simp, by simp⟩
    | some r =>
      obtain ⟨y, l⟩ := r
      rw [feedN_step h]
      have h1 := stepF_less h
      obtain ⟨h2, h3⟩ := stepF_toks h
      obtain ⟨h4, h5, h6⟩ := feedN_toks f y
      refine ⟨by rw [List.length_append]; omega, fun a ha => ?_, by show (feedN f y).2.size ≤ _; omega⟩
      rcases List.mem_append.1 ha with h7 | h7
      · exact h3 a h7
      · exact h5 a h7
theorem tot_le : ∀ (l : List Tok), (∀ a ∈ l, a.attrs.length ≤ 4) → totN (l.map tokN.num) ≤ 11 * (l.length : Int)
  | [], _ => by simp [totN]
  | t :: l, h => by
    rw [List.map_cons, totN_cons]
    have h1 := tot_le l fun a ha => h a (List.mem_cons_of_mem _ ha)
    have h2 : (tokN.num t : Nat) ≤ 4 := h t (by simp)
    rw [List.length_cons]
    omega
theorem eqTokenizer_any (s : ByteArray) (w : World) : Calls Tryd.prog 29 #[.agg #[.string s], .agg #[.string s]] w fun e w' => e = .returned (.bool true) ∧ Below w.heap.size w w' := by
  go_enter Tryd.func29, Tryd.ntmps29
  go_wp2
  go_ret
  exact ⟨rfl, ((Below.refl _ _).alloc (Nat.le_refl _) _).alloc (by simp) _⟩

set_option maxHeartbeats 2000000 in
theorem fnExactFeedText_walk (w : World) (hm : LdM w) (s0 : ByteArray) (g0 : s0.size ≤ maxLen) (s1 : ByteArray) (g1 : s1.size ≤ maxLen) :
    Calls Tryd.prog 6 #[.agg #[.string s0], .string s1] w fun e w' => e = .returned (.bool true) ∧ Below w.heap.size w w' := by
  unfold maxLen at g1
  by_cases xx : 1048576 < s1.size
  · go_enter Tryd.func6, Tryd.ntmps6
    go_wp2
    go_ret
    exact ⟨rfl, (Below.refl _ _).alloc (Nat.le_refl _) _⟩
  have Xs1 : s1.size ≤ 1048576 := by omega
  clear xx
  unfold maxLen at g0
  have cb : Below w.heap.size w w := Below.refl _ _
  have K0 : (w.alloc (.cells #[.string s0] 45)).cell? ⟨w.heap.size, 0, none⟩ = some (.string s0) := by simp [go_sem]
  replace cb : Below w.heap.size w (w.alloc (.cells #[.string s0] 45)) := cb.alloc cb.size (.cells #[.string s0] 45)
  have zz : w.heap.size < (w.alloc (.cells #[.string s0] 45)).heap.size := by simp
  go_enter Tryd.func6, Tryd.ntmps6
  go_wp2_with fail
  refine (szTokenizer_any s0 (by omega) _ (by omega) (by omega) _).mono ?_
  rintro e v1 ⟨r1, rfl, h1a, h1b, h1c, bb⟩
  have zz := bb.size
  try simp only [World.size_drew, World.size_alloc] at zz
  replace K0 : v1.cell? ⟨w.heap.size, 0, none⟩ = some (.string s0) := ((bcell bb).1 _ _ (by first | omega | (simp; done) | (simp; omega))).trans (by first | exact K0 | (simp only [World.cell?_drew]; exact K0) | (simp [go_sem]; done))
  replace cb : Below w.heap.size w v1 := by first | exact cb.trans (bb.mono cb.size) | exact cb.drew.trans (bb.mono cb.drew.size)
  clear bb
  rcases Int.lt_or_le r1 0 with hneg | hpos
  · go_wp2
    go_ret
    exact ⟨rfl, cb⟩
  · have h1d := h1c hpos
    clear h1c
    have hS := fun W => feedText_spec W s0 s1 (by omega) (by omega)
    have hI := fun W h => feedText_impl W h s0 s1 (by omega) (by omega)
    obtain ⟨e1, e4, e5⟩ := feedN_toks (s0 ++ s1).size (s0 ++ s1)
    rw [show feedN (s0 ++ s1).size (s0 ++ s1) = feed (s0 ++ s1) from rfl, ByteArray.size_append] at e1 e5
    rw [show feedN (s0 ++ s1).size (s0 ++ s1) = feed (s0 ++ s1) from rfl] at e4
    generalize feed (s0 ++ s1) = F at *
    obtain ⟨F1, F2⟩ := F
    simp only at e1 e4 e5
    have e2 : ∀ a ∈ F1, a.attrs.length ≤ 1073741824 := fun a ha => by have := e4 a ha; omega
    have e3 := tot_le F1 e4
    clear e4
    go_wp2_with fail
    refine (toTokenizer_any _ _).mono ?_
    rintro e v2 ⟨rfl, bb⟩
    have zz := bb.size
    try simp only [World.size_drew, World.size_alloc] at zz
    replace K0 : v2.cell? ⟨w.heap.size, 0, none⟩ = some (.string s0) := ((bcell bb).1 _ _ (by first | omega | (simp; done) | (simp; omega))).trans (by first | exact K0 | (simp only [World.cell?_drew]; exact K0) | (simp [go_sem]; done))
    replace cb : Below w.heap.size w v2 := by first | exact cb.trans (bb.mono cb.size) | exact cb.drew.trans (bb.mono cb.drew.size)
    clear bb
    go_wp2_with fail
    refine (hS _).mono ?_
    rintro e v3 ⟨Aow, Cow, Low, rfl, how, ow, bb⟩
    have zz := bb.size
    try simp only [World.size_drew, World.size_alloc] at zz
    replace K0 : v3.cell? ⟨w.heap.size, 0, none⟩ = some (.string s0) := ((bcell bb).1 _ _ (by first | omega | (simp; done) | (simp; omega))).trans (by first | exact K0 | (simp only [World.cell?_drew]; exact K0) | (simp [go_sem]; done))
    replace cb : Below w.heap.size w v3 := by first | exact cb.trans (bb.mono cb.size) | exact cb.drew.trans (bb.mono cb.drew.size)
    clear bb
    simp only at how ow
    replace K0 : (v3.alloc (.cells #[.string F2] 40)).cell? ⟨w.heap.size, 0, none⟩ = some (.string s0) := (World.cell?_alloc_some _ _ _ (by rw [K0]; rfl)).trans K0
    have K1 : (v3.alloc (.cells #[.string F2] 40)).cell? ⟨v3.heap.size, 0, none⟩ = some (.string F2) := by simp [go_sem]
    replace ow := ow.below ((Below.refl _ _).alloc (Nat.le_refl _) (.cells #[.string F2] 40))
    replace cb : Below w.heap.size w (v3.alloc (.cells #[.string F2] 40)) := cb.alloc cb.size (.cells #[.string F2] 40)
    have zz : v3.heap.size < (v3.alloc (.cells #[.string F2] 40)).heap.size := by simp
    go_wp2_with fail
    refine (toTokenizer_any _ _).mono ?_
    rintro e v4 ⟨rfl, bb⟩
    have zz := bb.size
    try simp only [World.size_drew, World.size_alloc] at zz
    replace ow := ow.below bb
    replace K0 : v4.cell? ⟨w.heap.size, 0, none⟩ = some (.string s0) := ((bcell bb).1 _ _ (by first | omega | (simp; done) | (simp; omega))).trans (by first | exact K0 | (simp only [World.cell?_drew]; exact K0) | (simp [go_sem]; done))
    replace K1 : v4.cell? ⟨v3.heap.size, 0, none⟩ = some (.string F2) := ((bcell bb).1 _ _ (by first | omega | (simp; done) | (simp; omega))).trans (by first | exact K1 | (simp only [World.cell?_drew]; exact K1) | (simp [go_sem]; done))
    replace cb : Below w.heap.size w v4 := by first | exact cb.trans (bb.mono cb.size) | exact cb.drew.trans (bb.mono cb.drew.size)
    clear bb
    go_wp2_with fail
    refine (hI _ (hm.below cb)).mono ?_
    rintro e v5 ⟨Aog, Cog, Log, rfl, hog, og, bb⟩
    have zz := bb.size
    try simp only [World.size_drew, World.size_alloc] at zz
    replace ow := ow.below bb
    replace K0 : v5.cell? ⟨w.heap.size, 0, none⟩ = some (.string s0) := ((bcell bb).1 _ _ (by first | omega | (simp; done) | (simp; omega))).trans (by first | exact K0 | (simp only [World.cell?_drew]; exact K0) | (simp [go_sem]; done))
    replace K1 : v5.cell? ⟨v3.heap.size, 0, none⟩ = some (.string F2) := ((bcell bb).1 _ _ (by first | omega | (simp; done) | (simp; omega))).trans (by first | exact K1 | (simp only [World.cell?_drew]; exact K1) | (simp [go_sem]; done))
    replace cb : Below w.heap.size w v5 := by first | exact cb.trans (bb.mono cb.size) | exact cb.drew.trans (bb.mono cb.drew.size)
    clear bb
    simp only at hog og
    replace K0 : (v5.alloc (.cells #[.string F2] 40)).cell? ⟨w.heap.size, 0, none⟩ = some (.string s0) := (World.cell?_alloc_some _ _ _ (by rw [K0]; rfl)).trans K0
    replace K1 : (v5.alloc (.cells #[.string F2] 40)).cell? ⟨v3.heap.size, 0, none⟩ = some (.string F2) := (World.cell?_alloc_some _ _ _ (by rw [K1]; rfl)).trans K1
    have K2 : (v5.alloc (.cells #[.string F2] 40)).cell? ⟨v5.heap.size, 0, none⟩ = some (.string F2) := by simp [go_sem]
    replace ow := ow.below ((Below.refl _ _).alloc (Nat.le_refl _) (.cells #[.string F2] 40))
    replace og := og.below ((Below.refl _ _).alloc (Nat.le_refl _) (.cells #[.string F2] 40))
    replace cb : Below w.heap.size w (v5.alloc (.cells #[.string F2] 40)) := cb.alloc cb.size (.cells #[.string F2] 40)
    have zz : v5.heap.size < (v5.alloc (.cells #[.string F2] 40)).heap.size := by simp
    go_wp2_with fail
    refine (eqTokenS_yes _ (OwnN.rd og hog (by first | omega | (simp; omega))) (OwnN.rd ow how (by first | omega | (simp; omega))) (by omega) e2).mono ?_
    rintro e v6 ⟨rfl, bb⟩
    have zz := bb.size
    try simp only [World.size_drew, World.size_alloc] at zz
    replace ow := ow.below bb
    replace og := og.below bb
    replace K0 : v6.cell? ⟨w.heap.size, 0, none⟩ = some (.string s0) := ((bcell bb).1 _ _ (by first | omega | (simp; done) | (simp; omega))).trans (by first | exact K0 | (simp only [World.cell?_drew]; exact K0) | (simp [go_sem]; done))
    replace K1 : v6.cell? ⟨v3.heap.size, 0, none⟩ = some (.string F2) := ((bcell bb).1 _ _ (by first | omega | (simp; done) | (simp; omega))).trans (by first | exact K1 | (simp only [World.cell?_drew]; exact K1) | (simp [go_sem]; done))
    replace K2 : v6.cell? ⟨v5.heap.size, 0, none⟩ = some (.string F2) := ((bcell bb).1 _ _ (by first | omega | (simp; done) | (simp; omega))).trans (by first | exact K2 | (simp only [World.cell?_drew]; exact K2) | (simp [go_sem]; done))
    replace cb : Below w.heap.size w v6 := by first | exact cb.trans (bb.mono cb.size) | exact cb.drew.trans (bb.mono cb.drew.size)
    clear bb
    go_wp2_with fail
    refine (eqTokenizer_any F2 _).mono ?_
    rintro e v7 ⟨rfl, bb⟩
    have zz := bb.size
    try simp only [World.size_drew, World.size_alloc] at zz
    replace ow := ow.below bb
    replace og := og.below bb
    replace K0 : v7.cell? ⟨w.heap.size, 0, none⟩ = some (.string s0) := ((bcell bb).1 _ _ (by first | omega | (simp; done) | (simp; omega))).trans (by first | exact K0 | (simp only [World.cell?_drew]; exact K0) | (simp [go_sem]; done))
    replace K1 : v7.cell? ⟨v3.heap.size, 0, none⟩ = some (.string F2) := ((bcell bb).1 _ _ (by first | omega | (simp; done) | (simp; omega))).trans (by first | exact K1 | (simp only [World.cell?_drew]; exact K1) | (simp [go_sem]; done))
    replace K2 : v7.cell? ⟨v5.heap.size, 0, none⟩ = some (.string F2) := ((bcell bb).1 _ _ (by first | omega | (simp; done) | (simp; omega))).trans (by first | exact K2 | (simp only [World.cell?_drew]; exact K2) | (simp [go_sem]; done))
    replace cb : Below w.heap.size w v7 := by first | exact cb.trans (bb.mono cb.size) | exact cb.drew.trans (bb.mono cb.drew.size)
    clear bb
    have en := nums_of (N := tokN) hog
    go_wp2_with fail
    refine (markTokenS_any _ og (by omega) (by omega) (by omega) (by rw [en]; omega)).mono ?_
    rintro e v8 ⟨rfl, om, bb⟩
    have zz := bb.size
    try simp only [World.size_drew, World.size_alloc] at zz
    replace cb : Below w.heap.size w v8 := cb.trans (bb.below cb.size (fun k hk => by have := hk.1; omega))
    replace ow := ow.keep bb (fun k hk => by have h1 := hk.1; have h2 := hk.2; omega)
    replace K0 : v8.cell? ⟨w.heap.size, 0, none⟩ = some (.string s0) := (keeps_cell bb (by omega) (fun hk => by have h1 := hk.1; have h2 := hk.2; omega)).trans K0
    replace K1 : v8.cell? ⟨v3.heap.size, 0, none⟩ = some (.string F2) := (keeps_cell bb (by omega) (fun hk => by have h1 := hk.1; have h2 := hk.2; omega)).trans K1
    replace K2 : v8.cell? ⟨v5.heap.size, 0, none⟩ = some (.string F2) := (keeps_cell bb (by omega) (fun hk => by have h1 := hk.1; have h2 := hk.2; omega)).trans K2
    clear bb
    clear og
    replace om := om.more (by omega : _ ≤ v8.heap.size)
    rw [en] at om
    rw [en]
    have tn := totN_nonneg (F1.map tokN.num)
    go_wp2_with fail
    refine (heldTokenS_any _ om (by omega) (by omega) (by omega)).mono ?_
    rintro e v9 ⟨rfl, bb⟩
    have zz := bb.size
    try simp only [World.size_drew, World.size_alloc] at zz
    replace ow := ow.below bb
    replace om := om.next bb
    replace K0 : v9.cell? ⟨w.heap.size, 0, none⟩ = some (.string s0) := ((bcell bb).1 _ _ (by first | omega | (simp; done) | (simp; omega))).trans (by first | exact K0 | (simp only [World.cell?_drew]; exact K0) | (simp [go_sem]; done))
    replace K1 : v9.cell? ⟨v3.heap.size, 0, none⟩ = some (.string F2) := ((bcell bb).1 _ _ (by first | omega | (simp; done) | (simp; omega))).trans (by first | exact K1 | (simp only [World.cell?_drew]; exact K1) | (simp [go_sem]; done))
    replace K2 : v9.cell? ⟨v5.heap.size, 0, none⟩ = some (.string F2) := ((bcell bb).1 _ _ (by first | omega | (simp; done) | (simp; omega))).trans (by first | exact K2 | (simp only [World.cell?_drew]; exact K2) | (simp [go_sem]; done))
    replace cb : Below w.heap.size w v9 := by first | exact cb.trans (bb.mono cb.size) | exact cb.drew.trans (bb.mono cb.drew.size)
    clear bb
    go_wp2_with fail
    refine (toTokenizer_any _ _).mono ?_
    rintro e v10 ⟨rfl, bb⟩
    have zz := bb.size
    try simp only [World.size_drew, World.size_alloc] at zz
    replace ow := ow.below bb
    replace om := om.next bb
    replace K0 : v10.cell? ⟨w.heap.size, 0, none⟩ = some (.string s0) := ((bcell bb).1 _ _ (by first | omega | (simp; done) | (simp; omega))).trans (by first | exact K0 | (simp only [World.cell?_drew]; exact K0) | (simp [go_sem]; done))
    replace K1 : v10.cell? ⟨v3.heap.size, 0, none⟩ = some (.string F2) := ((bcell bb).1 _ _ (by first | omega | (simp; done) | (simp; omega))).trans (by first | exact K1 | (simp only [World.cell?_drew]; exact K1) | (simp [go_sem]; done))
    replace K2 : v10.cell? ⟨v5.heap.size, 0, none⟩ = some (.string F2) := ((bcell bb).1 _ _ (by first | omega | (simp; done) | (simp; omega))).trans (by first | exact K2 | (simp only [World.cell?_drew]; exact K2) | (simp [go_sem]; done))
    replace cb : Below w.heap.size w v10 := by first | exact cb.trans (bb.mono cb.size) | exact cb.drew.trans (bb.mono cb.drew.size)
    clear bb
    go_wp2_with fail
    refine (hI _ (hm.below cb)).mono ?_
    rintro e v11 ⟨Aoh, Coh, Loh, rfl, hoh, oh, bb⟩
    have zz := bb.size
    try simp only [World.size_drew, World.size_alloc] at zz
    replace ow := ow.below bb
    replace om := om.next bb
    replace K0 : v11.cell? ⟨w.heap.size, 0, none⟩ = some (.string s0) := ((bcell bb).1 _ _ (by first | omega | (simp; done) | (simp; omega))).trans (by first | exact K0 | (simp only [World.cell?_drew]; exact K0) | (simp [go_sem]; done))
    replace K1 : v11.cell? ⟨v3.heap.size, 0, none⟩ = some (.string F2) := ((bcell bb).1 _ _ (by first | omega | (simp; done) | (simp; omega))).trans (by first | exact K1 | (simp only [World.cell?_drew]; exact K1) | (simp [go_sem]; done))
    replace K2 : v11.cell? ⟨v5.heap.size, 0, none⟩ = some (.string F2) := ((bcell bb).1 _ _ (by first | omega | (simp; done) | (simp; omega))).trans (by first | exact K2 | (simp only [World.cell?_drew]; exact K2) | (simp [go_sem]; done))
    replace cb : Below w.heap.size w v11 := by first | exact cb.trans (bb.mono cb.size) | exact cb.drew.trans (bb.mono cb.drew.size)
    clear bb
    simp only at hoh oh
    replace K0 : (v11.alloc (.cells #[.string F2] 40)).cell? ⟨w.heap.size, 0, none⟩ = some (.string s0) := (World.cell?_alloc_some _ _ _ (by rw [K0]; rfl)).trans K0
    replace K1 : (v11.alloc (.cells #[.string F2] 40)).cell? ⟨v3.heap.size, 0, none⟩ = some (.string F2) := (World.cell?_alloc_some _ _ _ (by rw [K1]; rfl)).trans K1
    replace K2 : (v11.alloc (.cells #[.string F2] 40)).cell? ⟨v5.heap.size, 0, none⟩ = some (.string F2) := (World.cell?_alloc_some _ _ _ (by rw [K2]; rfl)).trans K2
    have K3 : (v11.alloc (.cells #[.string F2] 40)).cell? ⟨v11.heap.size, 0, none⟩ = some (.string F2) := by simp [go_sem]
    replace ow := ow.below ((Below.refl _ _).alloc (Nat.le_refl _) (.cells #[.string F2] 40))
    replace oh := oh.below ((Below.refl _ _).alloc (Nat.le_refl _) (.cells #[.string F2] 40))
    replace om := om.next ((Below.refl _ _).alloc (Nat.le_refl _) (.cells #[.string F2] 40))
    replace cb : Below w.heap.size w (v11.alloc (.cells #[.string F2] 40)) := cb.alloc cb.size (.cells #[.string F2] 40)
    have zz : v11.heap.size < (v11.alloc (.cells #[.string F2] 40)).heap.size := by simp
    go_wp2_with fail
    refine (eqTokenS_yes _ (OwnN.rd oh hoh (by first | omega | (simp; omega))) (OwnN.rd ow how (by first | omega | (simp; omega))) (by omega) e2).mono ?_
    rintro e v12 ⟨rfl, bb⟩
    have zz := bb.size
    try simp only [World.size_drew, World.size_alloc] at zz
    replace ow := ow.below bb
    replace oh := oh.below bb
    replace om := om.next bb
    replace K0 : v12.cell? ⟨w.heap.size, 0, none⟩ = some (.string s0) := ((bcell bb).1 _ _ (by first | omega | (simp; done) | (simp; omega))).trans (by first | exact K0 | (simp only [World.cell?_drew]; exact K0) | (simp [go_sem]; done))
    replace K1 : v12.cell? ⟨v3.heap.size, 0, none⟩ = some (.string F2) := ((bcell bb).1 _ _ (by first | omega | (simp; done) | (simp; omega))).trans (by first | exact K1 | (simp only [World.cell?_drew]; exact K1) | (simp [go_sem]; done))
    replace K2 : v12.cell? ⟨v5.heap.size, 0, none⟩ = some (.string F2) := ((bcell bb).1 _ _ (by first | omega | (simp; done) | (simp; omega))).trans (by first | exact K2 | (simp only [World.cell?_drew]; exact K2) | (simp [go_sem]; done))
    replace K3 : v12.cell? ⟨v11.heap.size, 0, none⟩ = some (.string F2) := ((bcell bb).1 _ _ (by first | omega | (simp; done) | (simp; omega))).trans (by first | exact K3 | (simp only [World.cell?_drew]; exact K3) | (simp [go_sem]; done))
    replace cb : Below w.heap.size w v12 := by first | exact cb.trans (bb.mono cb.size) | exact cb.drew.trans (bb.mono cb.drew.size)
    clear bb
    go_wp2_with fail
    refine (eqTokenizer_any F2 _).mono ?_
    rintro e v13 ⟨rfl, bb⟩
    have zz := bb.size
    try simp only [World.size_drew, World.size_alloc] at zz
    replace ow := ow.below bb
    replace oh := oh.below bb
    replace om := om.next bb
    replace K0 : v13.cell? ⟨w.heap.size, 0, none⟩ = some (.string s0) := ((bcell bb).1 _ _ (by first | omega | (simp; done) | (simp; omega))).trans (by first | exact K0 | (simp only [World.cell?_drew]; exact K0) | (simp [go_sem]; done))
    replace K1 : v13.cell? ⟨v3.heap.size, 0, none⟩ = some (.string F2) := ((bcell bb).1 _ _ (by first | omega | (simp; done) | (simp; omega))).trans (by first | exact K1 | (simp only [World.cell?_drew]; exact K1) | (simp [go_sem]; done))
    replace K2 : v13.cell? ⟨v5.heap.size, 0, none⟩ = some (.string F2) := ((bcell bb).1 _ _ (by first | omega | (simp; done) | (simp; omega))).trans (by first | exact K2 | (simp only [World.cell?_drew]; exact K2) | (simp [go_sem]; done))
    replace K3 : v13.cell? ⟨v11.heap.size, 0, none⟩ = some (.string F2) := ((bcell bb).1 _ _ (by first | omega | (simp; done) | (simp; omega))).trans (by first | exact K3 | (simp only [World.cell?_drew]; exact K3) | (simp [go_sem]; done))
    replace cb : Below w.heap.size w v13 := by first | exact cb.trans (bb.mono cb.size) | exact cb.drew.trans (bb.mono cb.drew.size)
    clear bb
    go_wp2_with fail
    refine (heldTokenS_any _ om (by omega) (by omega) (by omega)).mono ?_
    rintro e v14 ⟨rfl, bb⟩
    have zz := bb.size
    try simp only [World.size_drew, World.size_alloc] at zz
    replace ow := ow.below bb
    replace oh := oh.below bb
    replace om := om.next bb
    replace K0 : v14.cell? ⟨w.heap.size, 0, none⟩ = some (.string s0) := ((bcell bb).1 _ _ (by first | omega | (simp; done) | (simp; omega))).trans (by first | exact K0 | (simp only [World.cell?_drew]; exact K0) | (simp [go_sem]; done))
    replace K1 : v14.cell? ⟨v3.heap.size, 0, none⟩ = some (.string F2) := ((bcell bb).1 _ _ (by first | omega | (simp; done) | (simp; omega))).trans (by first | exact K1 | (simp only [World.cell?_drew]; exact K1) | (simp [go_sem]; done))
    replace K2 : v14.cell? ⟨v5.heap.size, 0, none⟩ = some (.string F2) := ((bcell bb).1 _ _ (by first | omega | (simp; done) | (simp; omega))).trans (by first | exact K2 | (simp only [World.cell?_drew]; exact K2) | (simp [go_sem]; done))
    replace K3 : v14.cell? ⟨v11.heap.size, 0, none⟩ = some (.string F2) := ((bcell bb).1 _ _ (by first | omega | (simp; done) | (simp; omega))).trans (by first | exact K3 | (simp only [World.cell?_drew]; exact K3) | (simp [go_sem]; done))
    replace cb : Below w.heap.size w v14 := by first | exact cb.trans (bb.mono cb.size) | exact cb.drew.trans (bb.mono cb.drew.size)
    clear bb
    go_wp2
    go_ret
    exact ⟨rfl, cb⟩

end Go.Proofs.YtkmechjilekcmaaDoor
