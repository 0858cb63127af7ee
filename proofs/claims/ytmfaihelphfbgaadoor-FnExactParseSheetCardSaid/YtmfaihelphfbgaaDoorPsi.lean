/-
  Contract of ParseSheet of the program. Conditions: strings of at most 2^20 bytes; the library's MaxLen holds some integer; the table and sentinels of strconv as the text lays them.
-/
import Derived.Test.YtmfaihelphfbgaaDoorPss
import Derived.Test.YtmfaihelphfbgaaDoorItm
import Derived.Test.YtmfaihelphfbgaaDoorHsh
import Derived.Test.YtmfaihelphfbgaaDoorShf
import Derived.Test.YtmfaihelphfbgaaDoorStd
namespace Go.Proofs.YtmfaihelphfbgaaDoor
set_option linter.unusedVariables false
set_option linter.unusedSimpArgs false
set_option maxRecDepth 100000
open Go.ChangeShapes Go.WideShapes Go.ChangeAt Go.RowKit Go.Deep

theorem split_semi (w : World) (hm : LdM w) (s : ByteArray) (c : UInt8) (hs : s.size ≤ 1073741824) : Calls Tryd.prog 38 #[.string s, .string ⟨#[c]⟩] w fun e w' =>
    e = .returned (.slice (some ⟨w.heap.size, 0, none⟩) (words c s).length (words c s).length) ∧ w' = w.alloc (.cells ((words c s).map Value.string).toArray 9) := by
  obtain ⟨m, hm⟩ := hm
  have h := Tryd.strings_Split s ⟨#[c]⟩ m w (by omega) hm (one_sz c)
  rw [← words_len] at h
  exact h
theorem empty_eq : (ByteArray.empty : ByteArray) = ⟨#[]⟩ := rfl
theorem okI_empty : okI ⟨#[]⟩ = false := len_fail (.inl (by decide))
set_option maxHeartbeats 8000000 in
theorem parseSheet_impl (w : World) (hm : LdM w) (hld : LdP w) (s : ByteArray) (hs : s.size ≤ 1048576) : Calls Tryd.prog 17 #[.string s] w (GotSh w 60 (sheetT s)) := by
  have hsp := fun W h => split_semi W h s 59 (by omega)
  have hwl := words_le 59 s
  have hwz := words_size 59 s
  have hwp := words_pos 59 s
  have hT : Hid (sheetT s = (words 59 s).foldl stepS []) := Lib.hid rfl
  generalize words 59 s = ws at *
  have hbA := ((Below.refl w.heap.size w).alloc (Nat.le_refl _) (.cells #[.slice none 0 0] 34)).alloc (by simp) (.cells #[.slice none 0 0] 34)
  have hBx : BoxAt ((w.alloc (.cells #[.slice none 0 0] 34)).alloc (.cells #[.slice none 0 0] 34)) (w.heap.size + 1) [.slice none 0 0] 34 := BoxAt.new (by simp) _ _
  have hRs : BoxAt ((w.alloc (.cells #[.slice none 0 0] 34)).alloc (.cells #[.slice none 0 0] 34)) w.heap.size [.slice none 0 0] 34 := (BoxAt.new rfl _ _).alloc _
  have hzA : ((w.alloc (.cells #[.slice none 0 0] 34)).alloc (.cells #[.slice none 0 0] 34)).heap.size = w.heap.size + 2 := by simp
  go_enter Tryd.func17, Tryd.ntmps17
  go_wp2_with (fail)
  go_at_call 38
  refine (hsp _ (hm.below hbA)).mono ?_
  rintro e w1 ⟨rfl, hw1⟩
  rw [hzA]
  have hW1 : BoxAt w1 (w.heap.size + 2) (ws.map Value.string) 9 := by rw [hw1]; exact BoxAt.new hzA _ _
  have hbl : w.heap.size + 2 < w1.heap.size := hW1.lt
  have hst : SheetAt w w1 w1 60 34 s ws 0 [] none 0 := SheetAt.start hT.out (by rw [hw1]; exact hBx.alloc _)
  replace hRs : BoxAt w1 w.heap.size [.slice none 0 0] 34 := by rw [hw1]; exact hRs.alloc _
  have hb1 : Below w.heap.size w w1 := by rw [hw1]; exact hbA.alloc hbA.size _
  clear hsp hbA hBx hT hw1 hzA
  go_wp2_with (fail)
  go_loopw [15] (fun i wr => ∃ (k : Nat) (acc : List Rul) (A : Option Addr) (c : Nat), k ≤ ws.length ∧ i = .int .i64 k ∧ SheetAt w w1 wr 60 34 s ws k acc A c) (fun i _ => ws.length - (intOf i).toNat)
  case atStart => exact ⟨0, [], none, 0, Nat.zero_le _, rfl, hst⟩
  case round =>
    clear hst
    obtain ⟨k, acc, A, c, hk, rfl, h⟩ := hrel
    have hac := h.small
    have hbw := h.bel hb1
    by_cases hlt : k < ws.length
    · have hltI : (k : Int) < (ws.length : Int) := by omega
      have hk0I : (0 : Int) ≤ (k : Int) := by omega
      have hx : wr.cell? ⟨w.heap.size + 2, k, none⟩ = some (.string ws[k]) := h.cell (Nat.le_refl _) hbl (hW1.cell k _ (by rw [List.getElem?_map, List.getElem?_eq_getElem hlt]; rfl))
      have hxs : (ws[k]).size ≤ 1048576 := Nat.le_trans (hwz _ (List.getElem_mem _)) hs
      have hskip := fun (W : World) (hb : Below wr.heap.size wr W) (hn : stepS acc ws[k] = acc) => (h.next hb).skip hlt hn
      have hpush := fun (W w6 : World) (hb : Below wr.heap.size wr W) (a : Rul) (A6 : Option Addr) (c6 : Nat) (hn : ruleW ws[k] = some a) (hfull : acc.length < 8) => (h.next hb).push (w6 := w6) (A6 := A6) (c6 := c6) hlt hn hfull
      generalize ws[k] = x at *
      rcases ixB_cases x 58 with ⟨hix, -⟩ | ⟨ix, hixl, hix, -, -⟩
      · have hct := fun W => cut_miss x 58 hix W
        have hno := ruleW_miss hix
        rw [empty_eq] at hct
        clear hix
        have hpi := fun W h => parseInt_impl W h ⟨#[]⟩ (by decide)
        rw [okI_empty] at hpi
        go_wp2_with (fail)
        go_at_call 39
        refine (hct _).mono ?_
        rintro e w3 ⟨rfl, b3⟩
        go_wp2_with (fail)
        go_at_call 10
        refine (hpi _ (hld.below (hbw.trans (b3.mono hbw.size)))).mono ?_
        rintro e w4 ⟨rfl, b4⟩
        have hsk := hskip w4 (b3.trans (b4.mono b3.size)) (stepS_none hno)
        clear hpush hskip hct hpi
        go_wp2
        go_roundw
        case rel => exact ⟨k + 1, acc, A, c, by omega, by go_num, hsk⟩
        case measure => simp [intOf]; omega
      · have hct := fun W => cut_hit x 58 ix hixl (by omega) hix W
        have hAW := ruleW_hit hix
        have hks : (x.extract 0 ix).size ≤ 1048576 := by rw [ByteArray.size_extract]; omega
        have hvs : (x.extract (ix + 1) x.size).size ≤ 1048576 := by rw [ByteArray.size_extract]; omega
        generalize x.extract 0 ix = p0 at *
        generalize x.extract (ix + 1) x.size = p1 at *
        clear hix hixl
        have hpi := fun W h => parseInt_impl W h p1 (by omega)
        go_wp2_with (fail)
        go_at_call 39
        refine (hct _).mono ?_
        rintro e w3 ⟨rfl, b3⟩
        clear hct
        go_wp2_with (fail)
        cases eo : okI p1
        · simp only [eo] at hpi hAW
          go_at_call 10
          refine (hpi _ (hld.below (hbw.trans (b3.mono hbw.size)))).mono ?_
          rintro e w4 ⟨rfl, b4⟩
          have hsk := hskip w4 (b3.trans (b4.mono b3.size)) (stepS_none (by simpa using hAW))
          clear hAW hpush hskip
          go_wp2
          go_roundw
          case rel => exact ⟨k + 1, acc, A, c, by omega, by go_num, hsk⟩
          case measure => simp [intOf]; omega
        · simp only [eo] at hpi hAW
          go_at_call 10
          refine (hpi _ (hld.below (hbw.trans (b3.mono hbw.size)))).mono ?_
          rintro e w4 ⟨rfl, b4⟩
          have b34 := b3.trans (b4.mono b3.size)
          generalize valI p1 = z at *
          have hn0 := isName_impl p0 (by omega) w4
          have hir := inRange_impl z 1 999 w4
          cases e0 : nameB p0
          · rw [e0] at hn0 hAW
            have hsk := hskip w4 b34 (stepS_none (by simpa using hAW))
            clear hAW hpush hskip
            go_wp2_with (go_at_call 40; refine hn0.mono ?_; rintro e w' ⟨rfl, rfl⟩)
            go_roundw
            case rel => exact ⟨k + 1, acc, A, c, by omega, by go_num, hsk⟩
            case measure => simp [intOf]; omega
          · rw [e0] at hn0 hAW
            cases er : inR z 1 999
            · rw [er] at hAW hir
              have hsk := hskip w4 b34 (stepS_none (by simpa using hAW))
              clear hAW hpush hskip
              go_wp2_with (first
                | (go_at_call 40; refine hn0.mono ?_; rintro e w' ⟨rfl, rfl⟩)
                | (go_at_call 34; refine hir.mono ?_; rintro e w' ⟨rfl, rfl⟩))
              go_roundw
              case rel => exact ⟨k + 1, acc, A, c, by omega, by go_num, hsk⟩
              case measure => simp [intOf]; omega
            · rw [er] at hAW hir
              have hAW' : ruleW x = some (p0, z) := by simpa using hAW
              have h5 := h.next b34
              have K5 := h5.box.cell 0 _ rfl
              have F5 := h5.box.open_ 0
              have hgt := h5.gt
              have hbig := h5.big
              by_cases hfull : acc.length < 8
              · have hfI : (acc.length : Int) < 8 := by omega
                have hpu := fun w6 A6 c6 => hpush w4 w6 b34 (p0, z) A6 c6 hAW' hfull
                have hl1 := (Below.refl w4.heap.size w4).alloc (Nat.le_refl _) (.cells #[.string p0, .int .i64 z] 60)
                have ho5 := (h5.own.below hl1).1
                have hr5 := Reads.pair2 w4 (.string p0) (.int .i64 z) 60
                clear hAW hAW' hpush hskip hx hpi h h5
                go_wp2_with (first
                  | (go_at_call 40; refine hn0.mono ?_; rintro e w' ⟨rfl, rfl⟩)
                  | (go_at_call 34; refine hir.mono ?_; rintro e w' ⟨rfl, rfl⟩)
                  | (at_builtin
                     refine wpList_app row_Rule rfl (.tmp 46) (.tmp 50) rfl w1.heap.size A acc.length c (rulV acc) rfl ho5 _ _ 1 1 [.string p0, .int .i64 z] rfl hr5 (rul_one [(p0, z)]) (acc.length + 1) (rulV (acc ++ [(p0, z)])) rfl (by rw [rulV_append]; rfl) ⟨by omega, by omega⟩ (by simp; omega) ?_
                     intro A6 c6 w6 ho6 b6
                     have q6 : Below w1.heap.size w4 w6 := ((Below.refl w1.heap.size w4).alloc hbig _).trans b6
                     have gb := ((bcell q6).1 _ _ (by omega : w.heap.size + 1 < w1.heap.size)).trans K5
                     have gc := ((bcell q6).2 _ _ (by omega : w.heap.size + 1 < w1.heap.size)).trans F5))
                have hfin := hpu w6 A6 c6 ho6 q6
                go_roundw
                case rel => exact ⟨k + 1, acc ++ [(p0, z)], A6, c6, by omega, by go_num, hfin⟩
                case measure => simp [intOf]; omega
              · have hfI : (8 : Int) ≤ (acc.length : Int) := by omega
                have hsk := hskip w4 b34 (stepS_full (by omega))
                clear hAW hpush hskip hAW'
                go_wp2_with (first
                  | (go_at_call 40; refine hn0.mono ?_; rintro e w' ⟨rfl, rfl⟩)
                  | (go_at_call 34; refine hir.mono ?_; rintro e w' ⟨rfl, rfl⟩))
                go_roundw
                case rel => exact ⟨k + 1, acc, A, c, by omega, by go_num, hsk⟩
                case measure => simp [intOf]; omega
    · have hltI : (ws.length : Int) ≤ (k : Int) := by omega
      have hg := h.got (.inl (by omega)) hb1 (.slice A acc.length c)
      have hR := h.res hRs
      have R0 := hR.cell 0 _ rfl
      have R1 := hR.open_ 0
      have K0 := h.box.cell 0 _ rfl
      have f0 := (hR.put (j := 0) (.slice A acc.length c)).cell 0 _ rfl
      go_wp2
      exact bodyPost_ret (v := .agg #[.slice A acc.length c]) (by simp [results, Tryd.results17, go_sem, f0]) rfl hg
end Go.Proofs.YtmfaihelphfbgaaDoor
