/-
  Plain words: an address is read back from its form. What the law of addresses draws. No condition.
-/
import Derived.Test.YtpehaoamfifgbaaFad
import Derived.Test.YtpehaoamfifgbaaPas
import Derived.Deep.RegionHeld3
import Derived.Deep.Cut
namespace Go.Proofs.Ytpehaoamfifgbaa
set_option linter.unusedVariables false
set_option linter.unusedSimpArgs false
set_option maxRecDepth 100000
open Go.ChangeShapes Go.WideShapes Go.ChangeAt Go.RowKit Go.Deep

theorem name_no47 {s : ByteArray} (h : nameB s = true) : ∀ i (hi : i < s.size), s[i] ≠ 47 := by
  intro i hi he
  have := nameB_no hi (show lowB s[i] = false by rw [he]; decide)
  rw [h] at this
  cases this
theorem slash_ix {x y : ByteArray} (h : nameB x = true) : ixB (x ++ ⟨#[47]⟩ ++ y) 47 = x.size := by
  have e1 : (⟨#[47]⟩ : ByteArray).size = 1 := rfl
  have hs : (x ++ ⟨#[47]⟩ ++ y : ByteArray).size = x.size + 1 + y.size := by rw [ByteArray.size_append, ByteArray.size_append, e1]
  have hs1 : (x ++ ⟨#[47]⟩ : ByteArray).size = x.size + 1 := by rw [ByteArray.size_append, e1]
  refine ixB_at (by omega) ?_ fun j hj => ?_
  · rw [ByteArray.getElem_append_left (by omega), ByteArray.getElem_append_right (by omega)]
    simp
    rfl
  · rw [ByteArray.getElem_append_left (by omega), ByteArray.getElem_append_left (by omega)]
    exact name_no47 h j hj
theorem slash_cut (x y : ByteArray) : (x ++ ⟨#[47]⟩ ++ y : ByteArray).extract 0 x.size = x ∧ (x ++ ⟨#[47]⟩ ++ y : ByteArray).extract (x.size + 1) (x ++ ⟨#[47]⟩ ++ y : ByteArray).size = y := by
  have hx : x.size = x.data.size := rfl
  have hy : y.size = y.data.size := rfl
  have hz : (#[47] : Array UInt8).size = 1 := rfl
  have e1 : (⟨#[47]⟩ : ByteArray).size = 1 := rfl
  constructor
  · apply ByteArray.ext
    rw [ByteArray.data_extract, ByteArray.data_append, ByteArray.data_append]
    apply Array.ext_getElem?
    intro i
    simp only [Array.getElem?_extract, Array.getElem?_append, Array.size_append]
    grind
  · apply ByteArray.ext
    rw [ByteArray.data_extract, ByteArray.data_append, ByteArray.data_append, ByteArray.size_append, ByteArray.size_append, e1]
    apply Array.ext_getElem?
    intro i
    simp only [Array.getElem?_extract, Array.getElem?_append, Array.size_append]
    grind
theorem name_nil : nameB ⟨#[]⟩ = false := by decide
theorem ix_nil : ixB ⟨#[]⟩ 47 = -1 := ixB_none fun i hi => by
  have : (⟨#[]⟩ : ByteArray).size = 0 := rfl
  omega
theorem cut_fmt_yes {a : S2} (base : ByteArray) (h : isA a = true) : cutA (fmtA a) base = a := by
  rw [← fmtA_yes h]
  unfold isA at h
  rw [Bool.and_eq_true] at h
  rw [cutA_hit (slash_ix h.1), (slash_cut a.1 a.2).1, (slash_cut a.1 a.2).2]
theorem cut_fmt_no {a : S2} (base : ByteArray) (h : isA a = false) : isA (cutA (fmtA a) base) = false := by
  rw [← fmtA_no h, cutA_miss ix_nil]
  show (nameB base && nameB ⟨#[]⟩) = false
  rw [name_nil, Bool.and_false]
/-- what ParseAddr hands back -/
def zA (c : S2) : S2 := if isA c then c else (⟨#[]⟩, ⟨#[]⟩)
theorem retA_zA (c : S2) : retA c = .returned (.tuple #[.agg #[.string (zA c).1, .string (zA c).2], .bool (isA c)]) := by
  unfold retA zA
  cases h : isA c
  · simp
  · simp
theorem fmt_back (a : S2) (base : ByteArray) : isA (cutA (fmtA a) base) = isA a ∧ (isA a = true → zA (cutA (fmtA a) base) = a) := by
  cases h : isA a
  · exact ⟨cut_fmt_no base h, fun h => by cases h⟩
  · refine ⟨by rw [cut_fmt_yes base h, h], fun _ => ?_⟩
    rw [cut_fmt_yes base h, zA, if_pos h]
theorem zA_is {c : S2} (h : isA c = true) : isA (zA c) = true := by rw [zA, if_pos h]; exact h
theorem fmtA_size {a : S2} (h : shortA a) : (fmtA a).size ≤ 121 := by
  unfold fmtA
  split
  · have e1 : (⟨#[47]⟩ : ByteArray).size = 1 := rfl
    rw [ByteArray.size_append, ByteArray.size_append, e1]
    have := h.1
    have := h.2
    omega
  · have : (⟨#[]⟩ : ByteArray).size = 0 := rfl
    omega
abbrev BelowW (w w' : World) : Prop := Below w.heap.size w w'
set_option maxHeartbeats 1000000 in
theorem drawIsAddr_any {A : Option Addr} {n c : Nat} {zs : List Int} (w : World) (hx : Reads w w.heap.size 1 A n (zs.map (Value.int .u8))) (hn : n ≤ 1048576) (hz : ∀ z ∈ zs, 0 ≤ z ∧ z ≤ 255) :
    Calls Try.prog 26 #[.slice A n c] w (GotA BelowW w) := by
  have hb0 := (Below.refl w.heap.size w).alloc (Nat.le_refl _) (.cells #[.string ⟨#[]⟩, .string ⟨#[]⟩] 25)
  have bx := BoxAt.new (w := w) rfl [.string ⟨#[]⟩, .string ⟨#[]⟩] 25
  have hx1 := hx.next hb0
  go_enter Try.func26, Try.ntmps26
  go_wp2_with (fail)
  go_at_call 28
  refine (l1New_any _ hx1 hn hz).mono ?_
  rintro e w0 ⟨g, hg, rfl, hb, hc⟩
  replace bx := bx.next hb
  replace hb0 := hb0.trans (hb.mono hb0.size)
  simp only [World.size_alloc] at hg
  clear hx hx1 hz hb
  go_wp2_with (fail)
  go_at_call 32
  refine (l4Any_any _ g hc).mono ?_
  rintro e w1 ⟨⟨s, p⟩, hs, rfl, d⟩
  replace bx := bx.keeps d.1 (by omega)
  replace hb0 := hb0.trans (d.below (B := w.heap.size) hb0.size (by omega))
  have q0 := bx.open_ 0
  have q1 := bx.open_ 1
  have p0 := bx.cell 0 _ rfl
  have p1 := bx.cell 1 _ rfl
  have bz := (bx.put (j := 0) (.string s)).put (j := 1) (.string p)
  have f0 := bz.cell 0 _ rfl
  have f1 := bz.cell 1 _ rfl
  have hfin := (hb0.setCell (p := ⟨w.heap.size, 0, none⟩) (Nat.le_refl _) (.string s)).setCell (p := ⟨w.heap.size, 1, none⟩) (Nat.le_refl _) (.string p)
  clear bx bz d hb0
  go_wp2
  exact bodyPost_ret (v := .agg #[.string s, .string p]) (by simp [results, Try.results26, go_sem, f0, f1]) rfl ⟨(s, p), hs, rfl, hfin⟩
set_option maxHeartbeats 1000000 in
theorem drawFormatAddr_any {A : Option Addr} {n c : Nat} {zs : List Int} (w : World) (hx : Reads w w.heap.size 1 A n (zs.map (Value.int .u8))) (hn : n ≤ 1048576) (hz : ∀ z ∈ zs, 0 ≤ z ∧ z ≤ 255) :
    Calls Try.prog 6 #[.slice A n c] w (GotA BelowW w) := by
  have hb0 := (Below.refl w.heap.size w).alloc (Nat.le_refl _) (.cells #[.string ⟨#[]⟩, .string ⟨#[]⟩] 25)
  have bx := BoxAt.new (w := w) rfl [.string ⟨#[]⟩, .string ⟨#[]⟩] 25
  have hx1 := hx.next hb0
  go_enter Try.func6, Try.ntmps6
  go_wp2_with (fail)
  go_at_call 26
  refine (drawIsAddr_any _ hx1 hn hz).mono ?_
  rintro e w1 ⟨⟨s, p⟩, hs, rfl, d⟩
  replace bx := bx.next d
  replace hb0 := hb0.trans (Below.mono d hb0.size)
  have q0 := bx.open_ 0
  have q1 := bx.open_ 1
  have p0 := bx.cell 0 _ rfl
  have p1 := bx.cell 1 _ rfl
  have bz := (bx.put (j := 0) (.string s)).put (j := 1) (.string p)
  have f0 := bz.cell 0 _ rfl
  have f1 := bz.cell 1 _ rfl
  have hfin := (hb0.setCell (p := ⟨w.heap.size, 0, none⟩) (Nat.le_refl _) (.string s)).setCell (p := ⟨w.heap.size, 1, none⟩) (Nat.le_refl _) (.string p)
  clear bx bz d hb0
  go_wp2
  exact bodyPost_ret (v := .agg #[.string s, .string p]) (by simp [results, Try.results6, go_sem, f0, f1]) rfl ⟨(s, p), hs, rfl, hfin⟩
set_option maxHeartbeats 1000000 in
theorem drawParseAddr_any {A : Option Addr} {n c : Nat} {zs : List Int} (w : World) (hx : Reads w w.heap.size 1 A n (zs.map (Value.int .u8))) (hn : n ≤ 1048576) (hz : ∀ z ∈ zs, 0 ≤ z ∧ z ≤ 255) :
    Calls Try.prog 9 #[.slice A n c] w fun e w' => ∃ s b : ByteArray, s.size ≤ 200 ∧ b.size ≤ 200 ∧ e = .returned (.tuple #[.string s, .string b]) ∧ Below w.heap.size w w' := by
  go_enter Try.func9, Try.ntmps9
  go_wp2_with (fail)
  go_at_call 28
  refine (l1New_any _ hx hn hz).mono ?_
  rintro e w0 ⟨g, hg, rfl, hb, hc⟩
  clear hx hz
  have hd := Draws.refl hc
  go_wp2_with (fail)
  go_at_call 29
  refine (l1Str_any _ g (hd.alloc _).2 _ 4 [⟨#[104, 111, 109, 101]⟩, ⟨#[99, 100, 110]⟩, ⟨#[]⟩, ⟨#[65]⟩] (by have := hd.lt; omega) (by omega) (by omega) rfl (fun j v h => alloc_vals _ _ _ j v h) (alloc_lt _ _)).mono ?_
  rintro e w3 ⟨b, hb', rfl, d⟩
  replace hd := (hd.alloc _).trans d
  have hbz : b.size ≤ 200 := by
    simp only [List.mem_cons, List.not_mem_nil, or_false] at hb'
    rcases hb' with rfl | rfl | rfl | rfl <;> decide
  clear d hb'
  go_wp2_with (fail)
  go_at_call 30
  refine (l1Once_any _ g hd.2 2 (by omega) (by omega)).mono ?_
  rintro e w4 ⟨o, rfl, d⟩
  replace hd := hd.trans d
  clear d
  cases o
  · go_wp2_with (fail)
    go_at_call 29
    refine (l1Str_any _ g (hd.alloc _).2 _ 8 [⟨#[97, 112, 112]⟩, ⟨#[]⟩, ⟨#[47]⟩, ⟨#[97, 47]⟩, ⟨#[47, 98]⟩, ⟨#[97, 47, 98, 47, 99]⟩, ⟨#[99, 100, 110, 47, 108, 105, 98]⟩, ⟨#[65, 47, 98]⟩] (by have := hd.lt; omega) (by omega) (by omega) rfl (fun j v h => alloc_vals _ _ _ j v h) (alloc_lt _ _)).mono ?_
    rintro e w5 ⟨s, hs', rfl, d⟩
    replace hd := (hd.alloc _).trans d
    have hsz : s.size ≤ 200 := by
      simp only [List.mem_cons, List.not_mem_nil, or_false] at hs'
      rcases hs' with rfl | rfl | rfl | rfl | rfl | rfl | rfl | rfl <;> decide
    clear d hs'
    go_wp2
    go_ret2
    exact ⟨s, b, hsz, hbz, rfl, hb.trans (hd.below hb.size hg)⟩
  · go_wp2_with (fail)
    go_at_call 32
    refine (l4Any_any _ g hd.2).mono ?_
    rintro e w5 ⟨⟨x, y⟩, hs, rfl, d⟩
    replace hd := hd.trans d
    clear d
    have hfs := fmtA_size hs
    go_wp2_with (fail)
    go_at_call 31
    refine (formatAddr_spec (x, y) (by have := hs.1; simp only at this ⊢; omega) (by have := hs.2; simp only at this ⊢; omega) _).mono ?_
    rintro e w6 ⟨rfl, b6⟩
    have hbx := hb.trans (hd.below hb.size hg)
    have hby := hbx.trans (b6.mono hbx.size)
    generalize fmtA (x, y) = s at *
    go_wp2
    go_ret2
    exact ⟨s, b, by omega, hbz, rfl, hby⟩
set_option maxHeartbeats 1000000 in
theorem drawSortAddrs_any {A : Option Addr} {n c : Nat} {zs : List Int} (w : World) (hx : Reads w w.heap.size 1 A n (zs.map (Value.int .u8))) (hn : n ≤ 1048576) (hz : ∀ z ∈ zs, 0 ≤ z ∧ z ≤ 255) :
    Calls Try.prog 12 #[.slice A n c] w fun e w' => ∃ (A' : Option Addr) (c' : Nat) (l : List S2), l.length ≤ 6 ∧ e = .returned (.slice A' l.length c') ∧ Reads w' w'.heap.size 2 A' l.length (s2V l) ∧ Below w.heap.size w w' := by
  go_enter Try.func12, Try.ntmps12
  go_wp2_with (fail)
  go_at_call 28
  refine (l1New_any _ hx hn hz).mono ?_
  rintro e w0 ⟨g, hg, rfl, hb, hc⟩
  clear hx hz
  go_wp2_with (fail)
  go_at_call 35
  refine (l4Addrs_any _ g hc).mono ?_
  rintro e w1 ⟨A', c', l, hl, rfl, ho, d⟩
  go_wp2
  go_ret
  exact ⟨A', c', l, hl, rfl, Reads.of_own ho, hb.trans (d.below hb.size hg)⟩
end Go.Proofs.Ytpehaoamfifgbaa
