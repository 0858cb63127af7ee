/-
  Contract of TagOf of the program. Conditions: strings of at most 2^30 bytes; the library's MaxLen holds some integer.
-/
import Derived.Test.YtkmechjilekcmaaDoorTgs
import Derived.Test.YtkmechjilekcmaaDoorHsh
import Derived.Test.YtkmechjilekcmaaDoorShf
import Derived.Test.YtkmechjilekcmaaDoorStd
namespace Go.Proofs.YtkmechjilekcmaaDoor
set_option linter.unusedVariables false
set_option linter.unusedSimpArgs false
set_option maxRecDepth 100000
open Go.ChangeShapes Go.WideShapes Go.ChangeAt Go.RowKit Go.Deep

theorem split_words (w : World) (hm : LdM w) (s : ByteArray) (c : UInt8) (hs : s.size ≤ 1073741824) : Calls Tryd.prog 37 #[.string s, .string ⟨#[c]⟩] w fun e w' =>
    e = .returned (.slice (some ⟨w.heap.size, 0, none⟩) (words c s).length (words c s).length) ∧ w' = w.alloc (.cells ((words c s).map Value.string).toArray 9) := by
  obtain ⟨m, hm⟩ := hm
  have h := Tryd.strings_Split s ⟨#[c]⟩ m w (by omega) hm (one_sz c)
  rw [← words_len] at h
  exact h
theorem prefix_one (s : ByteArray) : Lib.hasPrefix s.data.toList [47] = slashB s ∧ (slashB s = true → (⟨(Lib.trimPrefix s.data.toList [47]).toArray⟩ : ByteArray) = s.extract 1 s.size) ∧ (slashB s = false → (⟨(Lib.trimPrefix s.data.toList [47]).toArray⟩ : ByteArray) = s) := by
  obtain ⟨⟨l⟩⟩ := s
  cases l with
  | nil =>
    refine ⟨rfl, ?_, ?_⟩
    · intro h
      cases h
    · intro _
      rfl
  | cons b r =>
    by_cases hb : b = 47
    · subst hb
      refine ⟨by simp [Lib.hasPrefix, List.isPrefixOf, slashB], fun _ => ?_, fun h => by simp [slashB] at h⟩
      apply ByteArray.ext
      rw [ByteArray.data_extract]
      simp [Lib.trimPrefix, Lib.hasPrefix, List.isPrefixOf, ByteArray.size]
    · have e1 : ((47 : UInt8) == b) = false := by simpa using fun e => hb (Eq.symm e)
      have e2 : (b == (47 : UInt8)) = false := by simpa using hb
      refine ⟨by simp [Lib.hasPrefix, List.isPrefixOf, slashB, e1, e2], fun h => by simp [slashB, hb] at h, fun _ => ?_⟩
      simp [Lib.trimPrefix, Lib.hasPrefix, List.isPrefixOf, e1]
theorem cutSlash_yes (w : World) (s : ByteArray) (h : slashB s = true) : Calls Tryd.prog 35 #[.string s, .string ⟨#[47]⟩] w fun e w' => e = .returned (.tuple #[.string (s.extract 1 s.size), .bool true]) ∧ w = w' := by
  obtain ⟨h1, h2, _⟩ := prefix_one s
  have hc := Tryd.strings_CutPrefix s ⟨#[47]⟩ w
  refine hc.mono fun e w' ⟨he, hw⟩ => ⟨?_, hw.symm⟩
  rw [he]
  show Ending.returned (.tuple #[.string ⟨(Lib.trimPrefix s.data.toList [47]).toArray⟩, .bool (Lib.hasPrefix s.data.toList [47])]) = _
  rw [h1, h2 h, h]
theorem cutSlash_no (w : World) (s : ByteArray) (h : slashB s = false) : Calls Tryd.prog 35 #[.string s, .string ⟨#[47]⟩] w fun e w' => e = .returned (.tuple #[.string s, .bool false]) ∧ w = w' := by
  obtain ⟨h1, _, h3⟩ := prefix_one s
  have hc := Tryd.strings_CutPrefix s ⟨#[47]⟩ w
  refine hc.mono fun e w' ⟨he, hw⟩ => ⟨?_, hw.symm⟩
  rw [he]
  show Ending.returned (.tuple #[.string ⟨(Lib.trimPrefix s.data.toList [47]).toArray⟩, .bool (Lib.hasPrefix s.data.toList [47])]) = _
  rw [h1, h3 h, h]
set_option maxHeartbeats 2000000 in
theorem tagOf_impl_long (w : World) (s : ByteArray) (hs : s.size ≤ 1073741824) (h1 : 60 < s.size) : Calls Tryd.prog 9 #[.string s] w (GotTag w 57 (tagT s)) := by
  have hres := Lib.hid (tagT_long h1)
  have h1' : (60 : Int) < s.size := by omega
  go_enter Tryd.func9, Tryd.ntmps9
  go_wp2
  exact bodyPost_ret (v := .tuple #[.agg #[.int .i64 0, .string ⟨#[]⟩, .slice none 0 0, .string ⟨#[]⟩], .bool false]) (by simp [results, Tryd.results9, go_sem]) rfl (GotTag.zero hres.out ((Below.refl _ _).alloc (Nat.le_refl _) _))
set_option maxHeartbeats 2000000 in
theorem tagOf_impl_slash (w : World) (s : ByteArray) (hs : s.size ≤ 60) (h1 : slashB s = true) : Calls Tryd.prog 9 #[.string s] w (GotTag w 57 (tagT s)) := by
  have hres := tagT_close (by omega : ¬ 60 < s.size) h1
  have h2' : (s.size : Int) ≤ 60 := by omega
  have hsz : (s.extract 1 s.size).size ≤ 60 := by rw [ByteArray.size_extract]; omega
  have hcp := fun W => cutSlash_yes W s h1
  generalize s.extract 1 s.size = X at *
  clear h1
  cases hn : nameB X
  · rw [hn] at hres
    have hres' := Lib.hid hres
    clear hres
    go_enter Tryd.func9, Tryd.ntmps9
    go_wp2_with (first | (go_at_call 35; refine (hcp _).mono ?_; rintro e w' ⟨rfl, rfl⟩) | (go_at_call 36; refine (isName_impl _ (by omega) _).mono ?_; rintro e w' ⟨rfl, rfl⟩; rw [hn]))
    exact bodyPost_ret (v := .tuple #[.agg #[.int .i64 0, .string ⟨#[]⟩, .slice none 0 0, .string ⟨#[]⟩], .bool false]) (by simp [results, Tryd.results9, go_sem]) rfl (GotTag.zero hres'.out ((Below.refl _ _).alloc (Nat.le_refl _) _))
  · rw [hn] at hres
    have hres' := Lib.hid hres
    clear hres
    go_enter Tryd.func9, Tryd.ntmps9
    go_wp2_with (first | (go_at_call 35; refine (hcp _).mono ?_; rintro e w' ⟨rfl, rfl⟩) | (go_at_call 36; refine (isName_impl _ (by omega) _).mono ?_; rintro e w' ⟨rfl, rfl⟩; rw [hn]))
    exact bodyPost_ret (v := .tuple #[.agg #[.int .i64 2, .string X, .slice none 0 0, .string ⟨#[]⟩], .bool true]) (by simp [results, Tryd.results9, go_sem]) rfl (GotTag.bare hres'.out ((Below.refl _ _).alloc (Nat.le_refl _) _))
set_option maxHeartbeats 8000000 in
theorem tagOf_impl_open (w : World) (hm : LdM w) (s : ByteArray) (hs : s.size ≤ 60) (h1 : slashB s = false) : Calls Tryd.prog 9 #[.string s] w (GotTag w 57 (tagT s)) := by
  have hT := Lib.hid (tagT_open (by omega : ¬ 60 < s.size) h1)
  have h2' : (s.size : Int) ≤ 60 := by omega
  have hb := (Below.refl w.heap.size w).alloc (Nat.le_refl _) (.cells #[.int .i64 0, .string ⟨#[]⟩, .slice none 0 0, .string ⟨#[]⟩] 24)
  have hB := BoxAt.new (w := w) rfl [.int .i64 0, .string ⟨#[]⟩, .slice none 0 0, .string ⟨#[]⟩] 24
  have hcp := fun W => cutSlash_no W s h1
  have hsp := fun W h => split_words W h s 32 (by omega)
  have hwl := words_le 32 s
  have hwz := words_size 32 s
  have hwp := words_pos 32 s
  generalize hws : words 32 s = ws at *
  rcases ws with _ | ⟨hd, tl⟩
  · simp at hwp
  have hWs := Lib.hid hws
  clear hws hwp h1
  have hlt : tl.length + 1 ≤ 61 := by simp at hwl; omega
  have hzd : hd.size ≤ 60 := Nat.le_trans (hwz hd (by simp)) hs
  have hnm := fun W => isName_impl hd (by omega) W
  go_enter Tryd.func9, Tryd.ntmps9
  go_wp2_with (fail)
  go_at_call 35
  refine (hcp _).mono ?_
  rintro e w0 ⟨rfl, rfl⟩
  go_wp2_with (fail)
  go_at_call 37
  refine (hsp _ (hm.below hb)).mono ?_
  rintro e w1 ⟨rfl, hw1⟩
  have hg : w.heap.size < w1.heap.size := by rw [hw1]; simp; omega
  have hB1 : BoxAt w1 w.heap.size [.int .i64 0, .string ⟨#[]⟩, .slice none 0 0, .string ⟨#[]⟩] 24 := by rw [hw1]; exact hB.alloc _
  have hb1 : Below w.heap.size w w1 := by rw [hw1]; exact hb.alloc hb.size _
  have hW1 : BoxAt w1 (w.heap.size + 1) ((hd :: tl).map Value.string) 9 := by rw [hw1]; exact BoxAt.new (by simp) _ _
  have hc0 : w1.cell? ⟨w.heap.size + 1, 0, none⟩ = some (.string hd) := hW1.cell 0 _ rfl
  have hgw : w.heap.size + 1 < w1.heap.size := hW1.lt
  have hbw : (w.alloc (.cells #[.int .i64 0, .string ⟨#[]⟩, .slice none 0 0, .string ⟨#[]⟩] 24)).heap.size = w.heap.size + 1 := by simp
  simp only [List.length_cons] at *
  clear hcp hsp hb hB hw1 hm
  cases e0 : nameB hd
  · rw [e0] at hnm
    have hres : Hid (tagT s = (zeroTok, false)) := by show _ = _; rw [hT.out]; exact wordsT_early hWs.out (.inl e0)
    obtain ⟨⟨z0, z1, z2, z3⟩, y0, y1, y2, y3⟩ := (hB1).four
    obtain ⟨⟨f0, f1, f2, f3⟩, -⟩ := ((hB1).four_put (.int .i64 0) (.string ⟨#[]⟩) (.slice none 0 0) (.string ⟨#[]⟩)).four
    go_wp2_with (go_at_call 36; refine (hnm _).mono ?_; rintro e w' ⟨rfl, rfl⟩)
    exact bodyPost_ret (v := .tuple #[.agg #[.int .i64 0, .string ⟨#[]⟩, .slice none 0 0, .string ⟨#[]⟩], .bool false]) (by simp [results, Tryd.results9, go_sem, f0, f1, f2, f3]) rfl (GotTag.zero (hres.out) (below_four hb1 (Nat.le_refl _) _ _ _ _))
  · rw [e0] at hnm
    by_cases h4 : 4 < tl.length
    · have h4I : (4 : Int) < (tl.length : Int) := by omega
      have hres : Hid (tagT s = (zeroTok, false)) := by show _ = _; rw [hT.out]; exact wordsT_early hWs.out (.inr h4)
      clear h4
      obtain ⟨⟨z0, z1, z2, z3⟩, y0, y1, y2, y3⟩ := (hB1).four
      obtain ⟨⟨f0, f1, f2, f3⟩, -⟩ := ((hB1).four_put (.int .i64 0) (.string ⟨#[]⟩) (.slice none 0 0) (.string ⟨#[]⟩)).four
      go_wp2_with (go_at_call 36; refine (hnm _).mono ?_; rintro e w' ⟨rfl, rfl⟩)
      exact bodyPost_ret (v := .tuple #[.agg #[.int .i64 0, .string ⟨#[]⟩, .slice none 0 0, .string ⟨#[]⟩], .bool false]) (by simp [results, Tryd.results9, go_sem, f0, f1, f2, f3]) rfl (GotTag.zero (hres.out) (below_four hb1 (Nat.le_refl _) _ _ _ _))
    · have h4I : (tl.length : Int) ≤ 4 := by omega
      have h5I : (1 : Int) ≤ ((tl.length + 1 : Nat) : Int) := by omega
      rcases Nat.eq_zero_or_pos tl.length with ht | ht
      · obtain rfl := List.eq_nil_of_length_eq_zero ht
        have hres : Hid (tagT s = (⟨1, hd, [], ⟨#[]⟩⟩, true)) := by show _ = _; rw [hT.out, wordsT_some hWs.out rfl, e0]; rfl
        have hB2 := hB1.alloc (.cells #[.int .i64 1, .string hd, .slice none 0 0, .string ⟨#[]⟩] 24)
        have hb2 := hb1.alloc hb1.size (.cells #[.int .i64 1, .string hd, .slice none 0 0, .string ⟨#[]⟩] 24)
        have hT2 := BoxAt.new (w := w1) rfl [.int .i64 1, .string hd, .slice none 0 0, .string ⟨#[]⟩] 24
        go_wp2_with (go_at_call 36; refine (hnm _).mono ?_; rintro e w' ⟨rfl, rfl⟩)
        refine wp_loop_rounds 1 ?_
        rw [rounds_succ]
        generalize w1.alloc (.cells #[.int .i64 1, .string hd, .slice none 0 0, .string ⟨#[]⟩] 24) = w2 at *
        obtain ⟨⟨g0', g1', g2', g3'⟩, q0, q1, q2, q3⟩ := hT2.four
        obtain ⟨⟨z0, z1, z2, z3⟩, y0, y1, y2, y3⟩ := hB2.four
        obtain ⟨⟨f0, f1, f2, f3⟩, -⟩ := (hB2.four_put (.int .i64 1) (.string hd) (.slice none 0 0) (.string ⟨#[]⟩)).four
        have hb4 := below_four hb2 (Nat.le_refl _) (.int .i64 1) (.string hd) (.slice none 0 0) (.string ⟨#[]⟩)
        go_wp2
        exact bodyPost_ret (v := .tuple #[.agg #[.int .i64 1, .string hd, .slice none 0 0, .string ⟨#[]⟩], .bool true]) (by simp [results, Tryd.results9, go_sem, f0, f1, f2, f3]) rfl (GotTag.bare hres.out hb4)
      · have ht1 : (1 : Int) < ((tl.length + 1 : Nat) : Int) := by omega
        have ht2 : ¬ tl = [] := by rintro rfl; simp at ht
        have ht3 : 1 < tl.length + 1 := by omega
        go_wp2_with (go_at_call 36; refine (hnm _).mono ?_; rintro e w' ⟨rfl, rfl⟩)
        go_loopw [52] (fun i wr => ∃ (j : Nat) (acc : List S2) (A : Option Addr) (c : Nat), j ≤ tl.length ∧ i = .int .i64 j ∧ Hid (attrsF tl [] = attrsF (tl.drop j) acc) ∧ acc.length = j ∧ BoxAt wr w1.heap.size [.int .i64 1, .string hd, .slice A acc.length c, .string ⟨#[]⟩] 24 ∧ Own wr (w1.heap.size + 1) wr.heap.size 57 2 (.slice A acc.length c) acc.length (s2V acc) ∧ Below w1.heap.size w1 wr) (fun i _ => tl.length - (intOf i).toNat)
        case atStart => exact ⟨0, [], none, 0, Nat.zero_le _, rfl, rfl, rfl, BoxAt.new rfl _ _, own_zero _ _ _ _ _, (Below.refl _ _).alloc (Nat.le_refl _) _⟩
        case round =>
          obtain ⟨j, acc, A, c, hj, rfl, hF, rfl, hB2, ho, hbel⟩ := hrel
          have hbs := hbel.size
          have hBz := hB1.below hbel hg
          have hb2 := hb1.trans (hbel.mono (Nat.le_of_lt hg))
          obtain ⟨⟨g0', g1', g2', g3'⟩, q0, q1, q2, q3⟩ := hB2.four
          by_cases hlt2 : acc.length < tl.length
          · have hjI : (acc.length : Int) < (tl.length : Int) := by omega
            have hcx : wr.cell? ⟨w.heap.size + 1, 1 + acc.length, none⟩ = some (.string tl[acc.length]) := (hbel.cell (p := ⟨w.heap.size + 1, 1 + acc.length, none⟩) hgw).trans (hW1.cell (1 + acc.length) _ (by rw [Nat.add_comm, List.getElem?_map, List.getElem?_cons_succ, List.getElem?_eq_getElem hlt2]; rfl))
            have hxs : (tl[acc.length]).size ≤ 60 := Nat.le_trans (hwz _ (List.mem_cons_of_mem _ (List.getElem_mem _))) hs
            have hdr := Lib.hid (drop_cons hlt2)
            generalize tl[acc.length] = x at *
            have hra := Reads.of_own ho.1
            have hacc : acc.length ≤ 60 := by omega
            rcases ixB_cases x 61 with ⟨hix, -⟩ | ⟨ix, hixl, hix, -, -⟩
            · have hct := fun W => cut_miss x 61 hix W
              have hres : Hid (tagT s = (zeroTok, false)) := by show _ = _; rw [hT.out]; exact wordsT_none hWs.out (by rw [hF.out, hdr.out]; exact attrsF_bad (attrW_miss hix))
              clear hix
              go_wp2_with (fail)
              go_at_call 38
              refine (hct _).mono ?_
              rintro e w3 ⟨rfl, b3⟩
              have hra3 := hra.next b3
              have hB3 := hB2.next b3
              have hBz3 := hBz.next b3
              have hb3 := hb2.trans (b3.mono hb2.size)
              clear hct hra b3 g0' g1' g2' g3' q0 q1 q2 q3
              obtain ⟨⟨g0', g1', g2', g3'⟩, -⟩ := hB3.four
              go_wp2_with (fail)
              go_at_call 39
              refine (findAttr_impl x _ hra3 (by omega)).mono ?_
              rintro e w4 ⟨rfl, b4⟩
              have hBz4 := hBz3.next b4
              have hb4 := hb3.trans (b4.mono hb3.size)
              obtain ⟨⟨z0, z1, z2, z3⟩, y0, y1, y2, y3⟩ := (hBz4).four
              obtain ⟨⟨f0, f1, f2, f3⟩, -⟩ := ((hBz4).four_put (.int .i64 0) (.string ⟨#[]⟩) (.slice none 0 0) (.string ⟨#[]⟩)).four
              go_wp2
              exact bodyPost_ret (v := .tuple #[.agg #[.int .i64 0, .string ⟨#[]⟩, .slice none 0 0, .string ⟨#[]⟩], .bool false]) (by simp [results, Tryd.results9, go_sem, f0, f1, f2, f3]) rfl (GotTag.zero (hres.out) (below_four hb4 (Nat.le_refl _) _ _ _ _))
            · have hct := fun W => cut_hit x 61 ix hixl (by omega) hix W
              have hAW := attrW_hit hix
              have hks : (x.extract 0 ix).size ≤ 60 := by rw [ByteArray.size_extract]; omega
              have hvs : (x.extract (ix + 1) x.size).size ≤ 60 := by rw [ByteArray.size_extract]; omega
              generalize x.extract 0 ix = p0 at *
              generalize x.extract (ix + 1) x.size = p1 at *
              clear hix hixl
              go_wp2_with (fail)
              go_at_call 38
              refine (hct _).mono ?_
              rintro e w3 ⟨rfl, b3⟩
              have hra3 := hra.next b3
              have hB3 := hB2.next b3
              have hBz3 := hBz.next b3
              have ho3 := ho.below b3
              have hb3 := hb2.trans (b3.mono hb2.size)
              have hbel3 := hbel.trans (b3.mono hbs)
              clear hct hra b3 g0' g1' g2' g3' q0 q1 q2 q3
              obtain ⟨⟨g0', g1', g2', g3'⟩, -⟩ := hB3.four
              generalize hFV : findV acc p0 = FV at *
              have HFV := Lib.hid hFV
              have hfa := findAttr_impl (c := c) p0 w3 hra3 (by omega)
              rw [hFV] at hfa
              clear hFV
              obtain ⟨fv, tw⟩ := FV
              simp only at hfa
              go_wp2_with (fail)
              go_at_call 39
              refine hfa.mono ?_
              rintro e w4 ⟨rfl, b4⟩
              have hB4 := hB3.next b4
              have hBz4 := hBz3.next b4
              have ho4 := ho3.below b4
              have hb4 := hb3.trans (b4.mono hb3.size)
              have hbel4 := hbel3.trans (b4.mono hbel3.size)
              clear hfa hra3 hB3 hBz3 ho3 hb3 hbel3 b4 g0' g1' g2' g3'
              have hn0 := isName_impl p0 (by omega) w4
              have hn1 := isValue_impl p1 (by omega) w4
              cases e2 : nameB p0
              · rw [e2] at hn0 hAW
                have hres : Hid (tagT s = (zeroTok, false)) := by show _ = _; rw [hT.out]; exact wordsT_none hWs.out (by rw [hF.out, hdr.out]; exact attrsF_bad (by simpa using hAW))
                clear hAW
                obtain ⟨⟨z0, z1, z2, z3⟩, y0, y1, y2, y3⟩ := (hBz4).four
                obtain ⟨⟨f0, f1, f2, f3⟩, -⟩ := ((hBz4).four_put (.int .i64 0) (.string ⟨#[]⟩) (.slice none 0 0) (.string ⟨#[]⟩)).four
                go_wp2_with (first | (go_at_call 36; refine hn0.mono ?_; rintro e w' ⟨rfl, rfl⟩) | (go_at_call 18; refine hn1.mono ?_; rintro e w' ⟨rfl, rfl⟩))
                exact bodyPost_ret (v := .tuple #[.agg #[.int .i64 0, .string ⟨#[]⟩, .slice none 0 0, .string ⟨#[]⟩], .bool false]) (by simp [results, Tryd.results9, go_sem, f0, f1, f2, f3]) rfl (GotTag.zero (hres.out) (below_four hb4 (Nat.le_refl _) _ _ _ _))
              · cases e1 : valueB p1
                · rw [e2] at hn0
                  rw [e1] at hn1
                  rw [e2, e1] at hAW
                  have hres : Hid (tagT s = (zeroTok, false)) := by show _ = _; rw [hT.out]; exact wordsT_none hWs.out (by rw [hF.out, hdr.out]; exact attrsF_bad (by simpa using hAW))
                  clear hAW
                  obtain ⟨⟨z0, z1, z2, z3⟩, y0, y1, y2, y3⟩ := (hBz4).four
                  obtain ⟨⟨f0, f1, f2, f3⟩, -⟩ := ((hBz4).four_put (.int .i64 0) (.string ⟨#[]⟩) (.slice none 0 0) (.string ⟨#[]⟩)).four
                  go_wp2_with (first | (go_at_call 36; refine hn0.mono ?_; rintro e w' ⟨rfl, rfl⟩) | (go_at_call 18; refine hn1.mono ?_; rintro e w' ⟨rfl, rfl⟩))
                  exact bodyPost_ret (v := .tuple #[.agg #[.int .i64 0, .string ⟨#[]⟩, .slice none 0 0, .string ⟨#[]⟩], .bool false]) (by simp [results, Tryd.results9, go_sem, f0, f1, f2, f3]) rfl (GotTag.zero (hres.out) (below_four hb4 (Nat.le_refl _) _ _ _ _))
                · rw [e2] at hn0
                  rw [e1] at hn1
                  rw [e2, e1] at hAW
                  have hAW' : attrW x = some (p0, p1) := by simpa using hAW
                  clear hAW
                  cases tw
                  · have hF' : Hid (attrsF tl [] = attrsF (tl.drop (acc.length + 1)) (acc ++ [(p0, p1)])) := hF.out.trans (by rw [hdr.out]; exact attrsF_step hAW' (by show (findV acc p0).2 = _; rw [HFV.out]))
                    obtain ⟨⟨g0', g1', g2', g3'⟩, q0, q1, q2, q3⟩ := hB4.four
                    have hgw4 : w1.heap.size + 1 ≤ w4.heap.size := hB4.lt
                    have hl1 := (Below.refl w4.heap.size w4).alloc (Nat.le_refl _) (.cells #[.string p0, .string p1] 57)
                    have ho5 := (ho4.below hl1).1
                    have hr5 := Reads.pair2 w4 (.string p0) (.string p1) 57
                    clear hF HFV hAW'
                    go_wp2_with (first
                      | (go_at_call 36; refine hn0.mono ?_; rintro e w' ⟨rfl, rfl⟩)
                      | (go_at_call 18; refine hn1.mono ?_; rintro e w' ⟨rfl, rfl⟩)
                      | (at_builtin
                         refine wpList_app row_Attr rfl (.tmp 86) (.tmp 90) rfl (w1.heap.size + 1) A acc.length c (s2V acc) rfl ho5 _ _ 1 1 [.string p0, .string p1] rfl hr5 (s2_one [(p0, p1)]) (acc.length + 1) (s2V (acc ++ [(p0, p1)])) rfl (by rw [s2V_append]; rfl) ⟨by omega, by omega⟩ (by simp; omega) ?_
                         intro A6 c6 w6 ho6 b6
                         have q6 : Below (w1.heap.size + 1) w4 w6 := ((Below.refl (w1.heap.size + 1) w4).alloc hgw4 _).trans b6
                         have gb := ((bcell q6).1 _ _ (Nat.lt_succ_self _)).trans g2'
                         have gc := ((bcell q6).2 _ _ (Nat.lt_succ_self _)).trans q2))
                    have hB7 := (hB4.below q6 (Nat.lt_succ_self _)).put (j := 2) (.slice A6 (acc.length + 1) c6)
                    have hbel7 := (hbel4.trans (q6.mono (Nat.le_succ _))).setCell (p := ⟨w1.heap.size, 2, none⟩) (Nat.le_refl _) (.slice A6 (acc.length + 1) c6)
                    have ho7 := ((Own.of_row ho6).set (p := ⟨w1.heap.size, 2, none⟩) (Nat.lt_succ_self _) (.slice A6 (acc.length + 1) c6)).wide (Nat.le_refl _) (show _ ≤ (w6.setCell ⟨w1.heap.size, 2, none⟩ (.slice A6 (acc.length + 1) c6)).heap.size by simp [World.setCell])
                    have hlen : (acc ++ [(p0, p1)]).length = acc.length + 1 := by rw [List.length_append]; rfl
                    clear ho6 b6 q6 gb gc hB4 hBz4 ho4 hb4 hbel4 ho5 hr5 hl1 g0' g1' g2' g3' q0 q1 q2 q3
                    go_roundw
                    case rel => exact ⟨acc.length + 1, acc ++ [(p0, p1)], A6, c6, by omega, by go_num, hF', hlen, by rw [hlen]; exact hB7, by rw [hlen]; exact ho7, hbel7⟩
                    case measure => simp [intOf]; omega
                  · have hres : Hid (tagT s = (zeroTok, false)) := by show _ = _; rw [hT.out]; exact wordsT_none hWs.out (by rw [hF.out, hdr.out]; exact attrsF_twice hAW' (by show (findV acc p0).2 = _; rw [HFV.out]))
                    clear hAW' hF HFV
                    obtain ⟨⟨z0, z1, z2, z3⟩, y0, y1, y2, y3⟩ := (hBz4).four
                    obtain ⟨⟨f0, f1, f2, f3⟩, -⟩ := ((hBz4).four_put (.int .i64 0) (.string ⟨#[]⟩) (.slice none 0 0) (.string ⟨#[]⟩)).four
                    go_wp2_with (first | (go_at_call 36; refine hn0.mono ?_; rintro e w' ⟨rfl, rfl⟩) | (go_at_call 18; refine hn1.mono ?_; rintro e w' ⟨rfl, rfl⟩))
                    exact bodyPost_ret (v := .tuple #[.agg #[.int .i64 0, .string ⟨#[]⟩, .slice none 0 0, .string ⟨#[]⟩], .bool false]) (by simp [results, Tryd.results9, go_sem, f0, f1, f2, f3]) rfl (GotTag.zero (hres.out) (below_four hb4 (Nat.le_refl _) _ _ _ _))
          · have hjE : (tl.length : Int) ≤ (acc.length : Int) := by omega
            have hF' : attrsF tl [] = some acc := by rw [hF.out, List.drop_eq_nil_of_le (by omega)]; rfl
            have hres : Hid (tagT s = (⟨1, hd, acc, ⟨#[]⟩⟩, true)) := by show _ = _; rw [hT.out, wordsT_some hWs.out hF', e0]; simp; omega
            clear hF hF'
            obtain ⟨⟨z0, z1, z2, z3⟩, y0, y1, y2, y3⟩ := hBz.four
            obtain ⟨⟨f0, f1, f2, f3⟩, -⟩ := (hBz.four_put (.int .i64 1) (.string hd) (.slice A acc.length c) (.string ⟨#[]⟩)).four
            have ho4 := (ho.four (g := w.heap.size) (.inl (by omega)) (.int .i64 1) (.string hd) (.slice A acc.length c) (.string ⟨#[]⟩)).wide (lo' := w.heap.size) (by omega) (Nat.le_refl _)
            have hb4 := below_four hb2 (Nat.le_refl _) (.int .i64 1) (.string hd) (.slice A acc.length c) (.string ⟨#[]⟩)
            go_wp2
            exact bodyPost_ret (v := .tuple #[.agg #[.int .i64 1, .string hd, .slice A acc.length c, .string ⟨#[]⟩], .bool true]) (by simp [results, Tryd.results9, go_sem, f0, f1, f2, f3]) rfl (GotTag.full hres.out (ho4.wide (Nat.le_refl _) (by simp [World.setCell])) hb4)
end Go.Proofs.YtkmechjilekcmaaDoor
