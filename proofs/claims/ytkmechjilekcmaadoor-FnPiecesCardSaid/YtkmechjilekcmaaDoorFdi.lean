/-
  Contract of FeedText of the program. Conditions: strings of at most 2^29 bytes; the library's MaxLen holds some integer.
-/
import Derived.Test.YtkmechjilekcmaaDoorFds
namespace Go.Proofs.YtkmechjilekcmaaDoor
set_option linter.unusedVariables false
set_option linter.unusedSimpArgs false
set_option maxRecDepth 100000
open Go.ChangeShapes Go.WideShapes Go.ChangeAt Go.RowKit Go.Deep

set_option maxHeartbeats 4000000 in
theorem feedText_impl (w : World) (hm : LdM w) (r s : ByteArray) (hr : r.size ≤ 536870912) (hs : s.size ≤ 536870912) : Calls Tryd.prog 23 #[.agg #[.string r], .string s] w (GotFeed w 24 57 (feed (r ++ s))) := by
  have hx0 : (r ++ s).size ≤ 1073741824 := by rw [ByteArray.size_append]; omega
  have hb := (((Below.refl w.heap.size w).alloc (Nat.le_refl _) (.cells #[.string r] 40)).alloc (by simp) (.cells #[.string ⟨#[]⟩] 40)).alloc (by simp; omega) (.cells #[] 24)
  have hB : BoxAt (((w.alloc (.cells #[.string r] 40)).alloc (.cells #[.string ⟨#[]⟩] 40)).alloc (.cells #[] 24)) (w.heap.size + 1) [.string ⟨#[]⟩] 40 := (BoxAt.new (by simp) [.string ⟨#[]⟩] 40).alloc _
  have h00 := Own.of_row (own_empty ((w.alloc (.cells #[.string r] 40)).alloc (.cells #[.string ⟨#[]⟩] 40)) 24 4)
  have hsz0 : ((w.alloc (.cells #[.string r] 40)).alloc (.cells #[.string ⟨#[]⟩] 40)).heap.size = w.heap.size + 2 := by simp
  rw [hsz0] at h00
  generalize hX : r ++ s = x0 at *
  go_enter Tryd.func23, Tryd.ntmps23
  go_wp2
  go_loopw [7, 6] (fun o x wr => ∃ (L : List (Tok × Hd)) (A : Option Addr) (c : Nat) (y : ByteArray), o = .slice A L.length c ∧ x = .string y ∧ FeedAt w wr 24 57 40 x0 L A c y) (fun _ x _ => strLen x)
  case atStart => exact ⟨[], _, _, x0, rfl, rfl, Feeds.start x0, ⟨h00, by simp, by simp, by simp⟩, hB, hb, by simp⟩
  case round =>
    clear hb hB h00 hsz0 hX
    obtain ⟨L, A, c, y, rfl, rfl, h⟩ := hrel
    have hgt := h.gt
    have hlen := h.len
    have hbel := h.bel
    rcases Nat.eq_zero_or_pos y.size with hy | hy
    · have hfin := Lib.hid (h.fed.out.stop (stepF_rest (headLt_nil hy) (ixB_none fun i hi => absurd hi (by omega))))
      obtain rfl := bytes_nil hy
      clear hy
      obtain ⟨z0, y0⟩ := h.box.one
      have f0 := (h.box.put (j := 0) (.string ⟨#[]⟩)).one.1
      have ho9 := (h.own.keep (keeps_set (S := fun k => k = w.heap.size + 1) wr (p := ⟨w.heap.size + 1, 0, none⟩) (.string ⟨#[]⟩) rfl) (fun k hk => .inl (by omega))).wide (Nat.le_refl _) (show wr.heap.size ≤ (wr.setCell ⟨w.heap.size + 1, 0, none⟩ (.string ⟨#[]⟩)).heap.size by simp [World.setCell])
      have hb9 := hbel.setCell (p := ⟨w.heap.size + 1, 0, none⟩) (Nat.le_succ _) (.string ⟨#[]⟩)
      clear h
      go_wp2
      exact bodyPost_ret (v := .tuple #[.slice A L.length c, .agg #[.string ⟨#[]⟩]]) (by simp [results, Tryd.results23, go_sem, f0]) rfl (GotFeed.of hfin.out ho9 (by omega) hb9)
    · have hy0 : (0 : Int) < (y.size : Int) := by omega
      have hyE : ¬ y = ByteArray.empty := by
        rintro rfl
        exact absurd hy (by decide)
      have hix : Calls Tryd.prog 52 #[.string y, .int .u8 60] wr fun e w' => e = .returned (.int .i64 (ixB y 60)) ∧ wr = w' := indexByte_any y 60 wr
      have hiy : Calls Tryd.prog 52 #[.string y, .int .u8 62] wr fun e w' => e = .returned (.int .i64 (ixB y 62)) ∧ wr = w' := indexByte_any y 62 wr
      have hyT : (y.toList == []) = false := by
        cases e : (y.toList == []) with
        | false => rfl
        | true =>
          have e1 : y.data.toList = [] := by rw [← Lib.toList_data]; exact beq_iff_eq.1 e
          have e2 : y.size = 0 := by show y.data.size = 0; rw [← Array.length_toList, e1]; rfl
          omega
      cases hh : headLt y
      · have hne : ((y[0].toNat : Nat) : Int) ≠ 60 := byte_ne (c := 60) (by rw [headLt_at hy] at hh; simpa using hh)
        clear hiy
        rcases ix_range y 60 with hk | ⟨k, hk, -⟩
        · have hfin := Lib.hid (h.fed.out.stop (stepF_rest hh hk))
          rw [hk] at hix
          clear hk hh
          obtain ⟨z0, y0⟩ := h.box.one
          have f0 := (h.box.put (j := 0) (.string y)).one.1
          have ho9 := (h.own.keep (keeps_set (S := fun k => k = w.heap.size + 1) wr (p := ⟨w.heap.size + 1, 0, none⟩) (.string y) rfl) (fun k hk => .inl (by omega))).wide (Nat.le_refl _) (show wr.heap.size ≤ (wr.setCell ⟨w.heap.size + 1, 0, none⟩ (.string y)).heap.size by simp [World.setCell])
          have hb9 := hbel.setCell (p := ⟨w.heap.size + 1, 0, none⟩) (Nat.le_succ _) (.string y)
          clear h
          go_wp2_with (go_at_call 52; refine hix.mono ?_; rintro e w5 ⟨rfl, rfl⟩)
          exact bodyPost_ret (v := .tuple #[.slice A L.length c, .agg #[.string y]]) (by simp [results, Tryd.results23, go_sem, f0]) rfl (GotFeed.of hfin.out ho9 (by omega) hb9)
        · have hk' := hk
          rw [hk'] at hix
          clear hk'
          obtain ⟨hks, hk1⟩ := ix_lt hh hk
          have hst := Lib.hid (stepF_text hh hk)
          have hkI : (k : Int) < (y.size : Int) := by omega
          have hkJ : (k : Int) ≤ (y.size : Int) := by omega
          have hk0 : (0 : Int) < (k : Int) := by omega
          have hk0' : (0 : Int) ≤ (k : Int) := by omega
          have hless := stepF_less hst.out
          generalize hTX : y.extract 0 k = tx at *
          generalize hZ : y.extract k y.size = z at *
          have hl1 := (Below.refl wr.heap.size wr).alloc (Nat.le_refl _) (.cells #[.int .i64 3, .string ⟨#[]⟩, .slice none 0 0, .string tx] 24)
          have hr4 := Reads.four4 wr (.int .i64 3) (.string ⟨#[]⟩) (.slice none 0 0) (.string tx) 24
          clear hh hk
          go_wp2_with (first
            | (go_at_call 52; refine hix.mono ?_; rintro e w5 ⟨rfl, rfl⟩)
            | (at_builtin
               refine wpList_push (N := tokN) (bytes := 64) row_Token rfl (.tmp 26) (.tmp 31) rfl (lo := w.heap.size + 2) (m := wr.heap.size) (ek := 57) (L := L) (A := A) (n := L.length) (c := c) (h.own.below hl1) (by simp) hgt (⟨3, ⟨#[]⟩, [], tx⟩, (none, 0)) (own_zero _ _ _ _ _) rfl (some ⟨wr.heap.size, 0, none⟩) 1 _ rfl hr4 (by omega) (by omega) ?_
               intro A2 c2 w2 ho2 hk2
               have h2 := h.push (x := (⟨3, ⟨#[]⟩, [], tx⟩, (none, 0))) hl1 hst.out ho2 hk2))
          go_roundw
          case rel => exact ⟨L ++ [(⟨3, ⟨#[]⟩, [], tx⟩, (none, 0))], A2, c2, z, by rw [List.length_append]; rfl, rfl, h2⟩
          case measure => simp [strLen]; omega
      · have hne : ((y[0].toNat : Nat) : Int) = 60 := byte_eq (c := 60) (by rw [headLt_at hy] at hh; simpa using hh)
        clear hix
        rcases ix_range y 62 with hj | ⟨j, hj, -⟩
        · have hfin := Lib.hid (h.fed.out.stop (stepF_open hh hj))
          rw [hj] at hiy
          clear hj hh
          obtain ⟨z0, y0⟩ := h.box.one
          have f0 := (h.box.put (j := 0) (.string y)).one.1
          have ho9 := (h.own.keep (keeps_set (S := fun k => k = w.heap.size + 1) wr (p := ⟨w.heap.size + 1, 0, none⟩) (.string y) rfl) (fun k hk => .inl (by omega))).wide (Nat.le_refl _) (show wr.heap.size ≤ (wr.setCell ⟨w.heap.size + 1, 0, none⟩ (.string y)).heap.size by simp [World.setCell])
          have hb9 := hbel.setCell (p := ⟨w.heap.size + 1, 0, none⟩) (Nat.le_succ _) (.string y)
          clear h
          go_wp2_with (go_at_call 52; refine hiy.mono ?_; rintro e w5 ⟨rfl, rfl⟩)
          exact bodyPost_ret (v := .tuple #[.slice A L.length c, .agg #[.string y]]) (by simp [results, Tryd.results23, go_sem, f0]) rfl (GotFeed.of hfin.out ho9 (by omega) hb9)
        · have hj' := hj
          rw [hj'] at hiy
          clear hj'
          obtain ⟨hjs, hj1⟩ := ix_gt hh hj
          have hst1 := fun (t : Tok) => stepF_tag (t := t) hh hj
          have hst0 := fun (t : Tok) => stepF_skip (t := t) hh hj
          have hjI : (j : Int) < (y.size : Int) := by omega
          have hjJ : (j : Int) + 1 ≤ (y.size : Int) := by omega
          have hjK : (1 : Int) ≤ (j : Int) := by omega
          have hjL : (j : Int) ≤ (y.size : Int) := by omega
          have hsz : (y.extract 1 j).size ≤ 1073741824 := by rw [ByteArray.size_extract]; omega
          have hzl : (y.extract (j + 1) y.size).size < y.size := by rw [ByteArray.size_extract]; omega
          generalize hTX : y.extract 1 j = tx at *
          generalize hZ : y.extract (j + 1) y.size = z at *
          have hT := tagOf_impl wr (hm.below hbel) tx hsz
          generalize hTT : tagT tx = T at *
          obtain ⟨t, ok⟩ := T
          have hS1 := Lib.hid hst1
          have hS0 := Lib.hid hst0
          clear hst1 hst0 hh hj hTT
          go_wp2_with (fail)
          go_at_call 52
          refine hiy.mono ?_
          rintro e w5 ⟨rfl, rfl⟩
          go_wp2_with (fail)
          go_at_call 9
          refine hT.mono ?_
          clear hT
          rintro e w3 ⟨A3, c3, rfl, o3, b3⟩
          simp only at o3
          have hl3 := (Below.refl w3.heap.size w3).alloc (Nat.le_refl _) (.cells #[.int .i64 t.kind, .string t.name, .slice A3 t.attrs.length c3, .string t.text] 24)
          have hb3 := b3.trans (hl3.mono b3.size)
          cases ok
          · have h2 := h.skip hb3 (hS0.out t rfl)
            go_wp2
            go_roundw
            case rel => exact ⟨L, A, c, z, rfl, rfl, h2⟩
            case measure => simp [strLen]; omega
          · have hst := hS1.out t rfl
            have hX3 := BoxAt.new (w := w3) rfl [.int .i64 t.kind, .string t.name, .slice A3 t.attrs.length c3, .string t.text] 24
            obtain ⟨⟨t0, t1, t2, t3⟩, -⟩ := hX3.four
            have hz3 := b3.size
            have hl4 := (Below.refl (w3.alloc (.cells #[.int .i64 t.kind, .string t.name, .slice A3 t.attrs.length c3, .string t.text] 24)).heap.size (w3.alloc (.cells #[.int .i64 t.kind, .string t.name, .slice A3 t.attrs.length c3, .string t.text] 24))).alloc (Nat.le_refl _) (.cells #[.int .i64 t.kind, .string t.name, .slice A3 t.attrs.length c3, .string t.text] 24)
            have hb4 := hb3.trans (hl4.mono hb3.size)
            have hr4 := Reads.four4 (w3.alloc (.cells #[.int .i64 t.kind, .string t.name, .slice A3 t.attrs.length c3, .string t.text] 24)) (.int .i64 t.kind) (.string t.name) (.slice A3 t.attrs.length c3) (.string t.text) 24
            have hkd := ((o3.below hl3).below hl4).wide (Nat.le_refl _) (show w3.heap.size ≤ ((w3.alloc (.cells #[.int .i64 t.kind, .string t.name, .slice A3 t.attrs.length c3, .string t.text] 24)).alloc (.cells #[.int .i64 t.kind, .string t.name, .slice A3 t.attrs.length c3, .string t.text] 24)).heap.size by simp; omega)
            have hsz3 : (w3.alloc (.cells #[.int .i64 t.kind, .string t.name, .slice A3 t.attrs.length c3, .string t.text] 24)).heap.size = w3.heap.size + 1 := by simp
            go_wp2_with (at_builtin
                         refine wpList_push (N := tokN) (bytes := 64) row_Token rfl (.tmp 48) (.tmp 50) rfl (lo := w.heap.size + 2) (m := wr.heap.size) (ek := 57) (L := L) (A := A) (n := L.length) (c := c) (h.own.below hb4) (Nat.le_trans (Nat.le_refl _) hb4.size) hgt (t, (A3, c3)) hkd rfl _ 1 _ ?_ hr4 (by omega) (by omega) ?_
                         · first | rfl | (rw [hsz3]; rfl) | (simp [Act.eval, Act.put]; done)
                         intro A2 c2 w2 ho2 hk2
                         have h2 := h.push (x := (t, (A3, c3))) hb4 hst ho2 hk2)
            go_roundw
            case rel => exact ⟨L ++ [(t, (A3, c3))], A2, c2, z, by rw [List.length_append]; rfl, rfl, h2⟩
            case measure => simp [strLen]; omega
end Go.Proofs.YtkmechjilekcmaaDoor
