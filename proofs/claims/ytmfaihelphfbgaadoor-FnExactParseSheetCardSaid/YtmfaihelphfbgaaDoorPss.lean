/-
  Contract of ParseSheet of the reference. Condition: strings of at most 2^30 bytes.
-/
import Derived.Test.YtmfaihelphfbgaaDoorPst
import Derived.Test.YtmfaihelphfbgaaDoorSpl
import Derived.Test.YtmfaihelphfbgaaDoorBox
import Derived.Deep.RegionLaw
import Derived.Deep.RegionHeld3
import Derived.BigQuiet
namespace Go.Proofs.YtmfaihelphfbgaaDoor
set_option linter.unusedVariables false
set_option linter.unusedSimpArgs false
set_option maxRecDepth 100000
open Go.ChangeShapes Go.WideShapes Go.ChangeAt Go.RowKit Go.Deep

set_option maxHeartbeats 8000000 in
theorem parseSheet_spec (w : World) (s : ByteArray) (hs : s.size ≤ 1048576) : Calls Tryd.prog 16 #[.string s] w (GotSh w 60 (sheetT s)) := by
  have hsp := fun W => l5Split_any W s 59 (by omega)
  have hwl := words_le 59 s
  have hwz := words_size 59 s
  have hwp := words_pos 59 s
  have hT : Hid (sheetT s = (words 59 s).foldl stepS []) := Lib.hid rfl
  generalize words 59 s = ws at *
  have hbA := ((Below.refl w.heap.size w).alloc (Nat.le_refl _) (.cells #[.slice none 0 0] 34)).alloc (by simp) (.cells #[.slice none 0 0] 34)
  have hBx : BoxAt ((w.alloc (.cells #[.slice none 0 0] 34)).alloc (.cells #[.slice none 0 0] 34)) (w.heap.size + 1) [.slice none 0 0] 34 := BoxAt.new (by simp) _ _
  have hRs : BoxAt ((w.alloc (.cells #[.slice none 0 0] 34)).alloc (.cells #[.slice none 0 0] 34)) w.heap.size [.slice none 0 0] 34 := (BoxAt.new rfl _ _).alloc _
  go_enter Tryd.func16, Tryd.ntmps16
  go_wp2_with (fail)
  go_at_call 35
  refine (hsp _).mono ?_
  rintro e w1 ⟨A4, c4, rfl, o4, b4⟩
  have hr4 := Reads.of_own o4.1
  obtain ⟨b0, off0, rfl, hbl, hcx⟩ := hr4.place (by omega) hwp
  have hbg : w.heap.size + 2 ≤ b0 := by have := (o4.1.lt b0 rfl).1; simpa using this
  have hst := SheetAt.start (er := 60) hT.out (hBx.next b4)
  replace hRs := hRs.next b4
  have hb1 := hbA.trans (b4.mono hbA.size)
  clear hsp hbA hBx b4 o4 hr4 hT
  go_wp2_with (fail)
  go_loopw [5] (fun i wr => ∃ (k : Nat) (acc : List Rul) (A : Option Addr) (c : Nat), k ≤ ws.length ∧ i = .int .i64 k ∧ SheetAt w w1 wr 60 34 s ws k acc A c) (fun i _ => ws.length - (intOf i).toNat)
  case atStart => exact ⟨0, [], none, 0, Nat.zero_le _, rfl, hst⟩
  case round =>
    clear hst
    obtain ⟨k, acc, A, c, hk, rfl, h⟩ := hrel
    have K0 := h.box.cell 0 _ rfl
    have F0 := h.box.open_ 0
    have hac := h.small
    by_cases hlt : k < ws.length
    · have hltI : (k : Int) < (ws.length : Int) := by omega
      by_cases hfull : acc.length < 8
      · have hfI : (acc.length : Int) < 8 := by omega
        have hx := h.cell hbg hbl (hcx k _ (by rw [List.getElem?_map, List.getElem?_eq_getElem hlt]; rfl))
        have hxs : (ws[k]).size ≤ 1048576 := Nat.le_trans (hwz _ (List.getElem_mem _)) hs
        have hskip := fun (W : World) (hb : Below wr.heap.size wr W) (hn : ruleW ws[k] = none) => (h.next hb).skip hlt (stepS_none hn)
        have hpush := fun (W w6 : World) (hb : Below wr.heap.size wr W) (a : Rul) (A6 : Option Addr) (c6 : Nat) (hn : ruleW ws[k] = some a) => (h.next hb).push (w6 := w6) (A6 := A6) (c6 := c6) hlt hn hfull
        generalize ws[k] = x at *
        have hsp := l5Split_any wr x 58 (by omega)
        have hp1 := words_size 58 x
        generalize hP : words 58 x = p at *
        have HP := Lib.hid hP
        clear hP
        go_wp2_with (fail)
        go_at_call 35
        refine hsp.mono ?_
        rintro e w3 ⟨A7, c7, rfl, o7, b7⟩
        clear hsp
        by_cases hl2 : p.length = 2
        · obtain ⟨p0, p1, rfl⟩ := two_list hl2
          have hr7 : Reads w3 w3.heap.size 1 A7 2 [.string p0, .string p1] := Reads.of_own o7.1
          obtain ⟨b7', off7, rfl, hbl7, hcx7⟩ := hr7.place (by omega) (by omega)
          have d0 : w3.cell? ⟨b7', off7, none⟩ = some (.string p0) := by simpa using hcx7 0 _ rfl
          have d1 : w3.cell? ⟨b7', off7 + 1, none⟩ = some (.string p1) := hcx7 1 _ rfl
          have hq0 : p0.size ≤ 1048576 := Nat.le_trans (hp1 p0 (by simp)) hxs
          have hq1 : p1.size ≤ 1048576 := Nat.le_trans (hp1 p1 (by simp)) hxs
          have hAW := ruleW_two HP.out
          clear hr7 hcx7 o7 hp1 hl2 HP
          have hn0 := isName_spec p0 (by omega) w3
          have hpi := fun W => parseInt_spec W p1 (by omega)
          cases e0 : nameB p0
          · rw [e0] at hn0 hAW
            have hsk := hskip w3 b7 (by simpa using hAW)
            clear hAW hpush hskip
            go_wp2_with (go_at_call 36; refine hn0.mono ?_; rintro e w' ⟨rfl, rfl⟩)
            go_roundw
            case rel => exact ⟨k + 1, acc, A, c, by omega, by go_num, hsk⟩
            case measure => simp [intOf]; omega
          · rw [e0] at hn0 hAW
            go_wp2_with (go_at_call 36; refine hn0.mono ?_; rintro e w' ⟨rfl, rfl⟩)
            cases eo : okI p1
            · simp only [eo] at hpi hAW
              go_at_call 26
              refine (hpi _).mono ?_
              rintro e w5 ⟨rfl, b5⟩
              have hsk := hskip w5 (b7.trans (b5.mono b7.size)) (by simpa using hAW)
              clear hAW hpush hskip
              go_wp2
              go_roundw
              case rel => exact ⟨k + 1, acc, A, c, by omega, by go_num, hsk⟩
              case measure => simp [intOf]; omega
            · simp only [eo] at hpi hAW
              go_at_call 26
              refine (hpi _).mono ?_
              rintro e w5 ⟨rfl, b5⟩
              have b75 := b7.trans (b5.mono b7.size)
              have d0' := (b5.cell (p := ⟨b7', off7, none⟩) hbl7).trans d0
              generalize valI p1 = z at *
              have hir := inRange_spec z 1 999 w5
              cases er : inR z 1 999
              · rw [er] at hAW hir
                have hsk := hskip w5 b75 (by simpa using hAW)
                clear hAW hpush hskip
                go_wp2_with (go_at_call 37; refine hir.mono ?_; rintro e w' ⟨rfl, rfl⟩)
                go_roundw
                case rel => exact ⟨k + 1, acc, A, c, by omega, by go_num, hsk⟩
                case measure => simp [intOf]; omega
              · rw [er] at hAW hir
                have hAW' : ruleW x = some (p0, z) := by simpa using hAW
                have h5 := h.next b75
                have hpu := fun w6 A6 c6 => hpush w5 w6 b75 (p0, z) A6 c6 hAW'
                have K5 := h5.box.cell 0 _ rfl
                have F5 := h5.box.open_ 0
                have hgt := h5.gt
                have hbig := h5.big
                have hl1 := (Below.refl w5.heap.size w5).alloc (Nat.le_refl _) (.cells #[.string p0, .int .i64 z] 60)
                have ho5' : (w5.alloc (.cells #[.string p0, .int .i64 z] 60)).drew.ownsRow w1.heap.size 60 2 (.slice A acc.length c) acc.length (rulV acc) := (h5.own.below hl1).1
                have hr5 : Reads (w5.alloc (.cells #[.string p0, .int .i64 z] 60)).drew (w5.heap.size + 1) 2 (some ⟨w5.heap.size, 0, none⟩) 1 [.string p0, .int .i64 z] := Reads.pair2 w5 (.string p0) (.int .i64 z) 60
                have ga := ((bcell hl1).1 _ _ h5.box.lt).trans K5
                clear hAW hAW' hpush hskip K0 F0 hcx hx d0 d1 hpi h
                go_wp2_with (go_at_call 37; refine hir.mono ?_; rintro e w' ⟨rfl, rfl⟩)
                go_region_law (refine step_app row_Rule (by rfl) (.tmp 52) (.tmp 58) (by rfl) w1.heap.size A acc.length c (rulV acc) (by rfl) ho5' _ _ 1 1 [.string p0, .int .i64 z] (by rfl) hr5 (rul_one [(p0, z)]) (acc.length + 1) (rulV (acc ++ [(p0, z)])) rfl (by rw [rulV_append]; rfl) ⟨by omega, by omega⟩ (by simp; omega) ?_; intro A6 c6 w6 ho6 b6; have q6 : Below w1.heap.size w5 w6 := (((Below.refl w1.heap.size w5).alloc hbig _).drew).trans b6; have gb := ((bcell q6).1 _ _ (by omega : w.heap.size + 1 < w1.heap.size)).trans K5; have gc := ((bcell q6).2 _ _ (by omega : w.heap.size + 1 < w1.heap.size)).trans F5)
                all_goals
                  have hfin := hpu w6 A6 c6 ho6 q6
                  clear ho6 b6 q6 gb gc ho5' hr5 ga hl1 h5 K5 F5 hpu
                  go_wp2
                  go_roundw
                  case rel => exact ⟨k + 1, acc ++ [(p0, z)], A6, c6, by omega, by go_num, hfin⟩
                  case measure => simp [intOf]; omega
        · have hlI : (((p.length : Nat) : Int) != 2) = true := by simp only [bne_iff_ne, ne_eq]; omega
          have hsk := hskip w3 b7 (ruleW_len (by rw [HP.out]; exact hl2))
          clear hl2 hpush hskip
          go_wp2
          go_roundw
          case rel => exact ⟨k + 1, acc, A, c, by omega, by go_num, hsk⟩
          case measure => simp [intOf]; omega
      · have hfI : (8 : Int) ≤ (acc.length : Int) := by omega
        have hg := h.got (.inr (by omega)) hb1 (.slice A acc.length c)
        have hR := h.res hRs
        have R0 := hR.cell 0 _ rfl
        have R1 := hR.open_ 0
        have f0 := (hR.put (j := 0) (.slice A acc.length c)).cell 0 _ rfl
        go_wp2
        exact bodyPost_ret (v := .agg #[.slice A acc.length c]) (by simp [results, Tryd.results16, go_sem, f0]) rfl hg
    · have hltI : (ws.length : Int) ≤ (k : Int) := by omega
      have hg := h.got (.inl (by omega)) hb1 (.slice A acc.length c)
      have hR := h.res hRs
      have R0 := hR.cell 0 _ rfl
      have R1 := hR.open_ 0
      have f0 := (hR.put (j := 0) (.slice A acc.length c)).cell 0 _ rfl
      go_wp2
      exact bodyPost_ret (v := .agg #[.slice A acc.length c]) (by simp [results, Tryd.results16, go_sem, f0]) rfl hg
end Go.Proofs.YtmfaihelphfbgaaDoor
