/-
  Contract of the reference's split at one byte. Condition: strings of at most 2^30 bytes.
  Contract of TagOf of the reference. Condition: strings of at most 2^30 bytes.
-/
import Derived.Test.YtleopmeaaabejaaP16
import Derived.Test.YtleopmeaaabejaaP03
import Derived.Deep.RegionHeld3
import Derived.Deep.QuietTactic
import Derived.BigQuiet
import Derived.Deep.RegionLaw
import Derived.Test.YtleopmeaaabejaaP06
namespace Go.Proofs.Ytleopmeaaabejaa
set_option linter.unusedVariables false
set_option linter.unusedSimpArgs false
set_option maxRecDepth 100000
open Go.ChangeShapes Go.WideShapes Go.ChangeAt Go.RowKit Go.Deep

theorem info_string : (Try.prog.info? 9).map (fun i => (i.zero, i.size, i.bytes)) = some (some (.string ⟨#[]⟩), 1, 16) := by kernel_rfl
theorem row_Str : RowT Try.prog 68 9 1 16 := RowT.mk' Try.underlying68 info_string rfl (by omega)
theorem strs_one (l : List ByteArray) : ∀ u ∈ l.map Value.string, u.oneCell' = true := by
  intro u hu
  obtain ⟨x, _, rfl⟩ := List.mem_map.1 hu
  rfl
theorem byte_eq {x c : UInt8} (h : x = c) : ((x.toNat : Nat) : Int) = (c.toNat : Int) := by rw [h]
theorem byte_ne {x c : UInt8} (h : x ≠ c) : ((x.toNat : Nat) : Int) ≠ (c.toNat : Int) := by intro e; exact h (UInt8.toNat_inj.1 (by omega))
set_option maxHeartbeats 2000000 in
theorem l5Split_any (w : World) (s : ByteArray) (c : UInt8) (hs : s.size ≤ 1073741824) : Calls Try.prog 91 #[.string s, .int .u8 c.toNat] w (GotRow w 9 1 (words c s).length ((words c s).map Value.string)) := by
  have h0 := own_empty w 9 1
  have hb0 := (Below.refl w.heap.size w).alloc (Nat.le_refl _) (.cells #[] 9)
  go_enter Try.func91, Try.ntmps91
  go_wp2
  go_loopw [5, 6, 7] (fun o f i wr => ∃ (a b : Nat) (P : List ByteArray) (A1 : Option Addr) (c1 : Nat), o = .slice A1 P.length c1 ∧ f = .int .i64 a ∧ i = .int .i64 b ∧ wr.ownsRow w.heap.size 9 1 (.slice A1 P.length c1) P.length (P.map Value.string) ∧ Below w.heap.size w wr ∧ P.length ≤ b ∧ b ≤ s.size + 1 ∧ a ≤ b ∧ Hid ((b ≤ s.size → Cutt c s a b P) ∧ (b = s.size + 1 → words c s = P))) (fun _ _ i _ => s.size + 1 - (intOf i).toNat)
  case atStart => exact ⟨0, 0, [], _, _, rfl, rfl, rfl, h0, hb0, by simp, by omega, by omega, ⟨fun _ => Cutt.start c s, fun h => absurd h (by omega)⟩⟩
  case round =>
    clear h0 hb0
    obtain ⟨a, b, P, A1, c1, rfl, rfl, rfl, hown, hbel, hP, hb, hab, hC⟩ := hrel
    have hbs := hbel.size
    by_cases hlt : b ≤ s.size
    · have hC1 := Lib.hid (hC.out.1 hlt)
      clear hC
      have ha0 : (0 : Int) ≤ (a : Int) := Int.natCast_nonneg _
      have hab' : (a : Int) ≤ (b : Int) := by omega
      have hlt' : (b : Int) ≤ (s.size : Int) := by omega
      by_cases he : b = s.size
      · subst he
        have hfin := Lib.hid hC1.out.last
        have hown1 := hown
        generalize hX : s.extract a s.size = X at *
        have hr := Reads.one wr (.string X) 9
        have ho2 := (Own.of_row hown).below ((Below.refl _ _).alloc (Nat.le_refl _) (.cells #[.string X] 9))
        go_wp2_with (at_builtin
                     refine wpList_app row_Str rfl (.tmp 26) (.tmp 31) rfl w.heap.size _ P.length _ (P.map Value.string) rfl ho2.1 (wr.heap.size + 1) _ 1 _ [.string X] rfl hr (strs_one [X]) (P.length + 1) ((P ++ [X]).map Value.string) (by omega) (by simp) ⟨by omega, by omega⟩ (by simp only [World.size_alloc]; omega) ?_
                     intro A2 c2 w2 ho bb)
        go_roundw
        case rel => exact ⟨s.size + 1, s.size + 1, P ++ [X], A2, c2, by rw [List.length_append]; rfl, by go_num, by go_num, by rw [List.length_append]; exact ho, (hbel.alloc hbs _).trans bb, by rw [List.length_append]; simp; omega, Nat.le_refl _, Nat.le_refl _, ⟨fun h => absurd h (by omega), fun _ => hfin.out⟩⟩
        case measure => simp [intOf] <;> omega
      · have hlt2 : b < s.size := by omega
        have hlt3 : (b : Int) < (s.size : Int) := by omega
        have heI : ((b : Int) == (s.size : Int)) = false := by simpa using (by omega : ¬ (b : Int) = (s.size : Int))
        by_cases hc : s[b] = c
        · have hcI := byte_eq hc
          have hfin := Lib.hid (hC1.out.hit hab hlt2 hc)
          generalize hX : s.extract a b = X at *
          have hr := Reads.one wr (.string X) 9
          have ho2 := (Own.of_row hown).below ((Below.refl _ _).alloc (Nat.le_refl _) (.cells #[.string X] 9))
          clear hc
          go_wp2_with (at_builtin
                       refine wpList_app row_Str rfl (.tmp 26) (.tmp 31) rfl w.heap.size _ P.length _ (P.map Value.string) rfl ho2.1 (wr.heap.size + 1) _ 1 _ [.string X] rfl hr (strs_one [X]) (P.length + 1) ((P ++ [X]).map Value.string) (by omega) (by simp) ⟨by omega, by omega⟩ (by simp only [World.size_alloc]; omega) ?_
                       intro A2 c2 w2 ho bb)
          go_roundw
          case rel => exact ⟨b + 1, b + 1, P ++ [X], A2, c2, by rw [List.length_append]; rfl, by go_num, by go_num, by rw [List.length_append]; exact ho, (hbel.alloc hbs _).trans bb, by rw [List.length_append]; simp; omega, by omega, Nat.le_refl _, ⟨fun _ => hfin.out, fun h => absurd h (by omega)⟩⟩
          case measure => (simp [intOf] <;> omega)
        · have hcI := byte_ne hc
          have hfin := Lib.hid (hC1.out.skip hlt2 hc)
          clear hc
          go_wp2
          go_roundw
          case rel => exact ⟨a, b + 1, P, A1, c1, rfl, rfl, by go_num, hown, hbel, by omega, by omega, by omega, ⟨fun _ => hfin.out, fun h => absurd h (by omega)⟩⟩
          case measure => (simp [intOf] <;> omega)
    · have hb1 : b = s.size + 1 := by omega
      have hfin := Lib.hid (hC.out.2 hb1)
      have hlt' : (s.size : Int) < (b : Int) := by omega
      clear hC
      go_wp2
      go_ret
      exact GotRow.of (by rw [hfin.out]) (by rw [hfin.out]) hown hbel
end Go.Proofs.Ytleopmeaaabejaa

namespace Go.Proofs.Ytleopmeaaabejaa
set_option linter.unusedVariables false
set_option linter.unusedSimpArgs false
set_option maxRecDepth 100000
open Go.ChangeShapes Go.WideShapes Go.ChangeAt Go.RowKit Go.Deep

set_option maxHeartbeats 2000000 in
theorem tagOf_spec_long (w : World) (s : ByteArray) (hs : s.size ≤ 1073741824) (h1 : 60 < s.size) : Calls Try.prog 77 #[.string s] w (GotTag w 104 (tagT s)) := by
  have hres := Lib.hid (tagT_long h1)
  have h1' : (60 : Int) < s.size := by omega
  have hB := BoxAt.new (w := w) rfl [.int .i64 0, .string ⟨#[]⟩, .slice none 0 0, .string ⟨#[]⟩] 40
  have hb := (Below.refl w.heap.size w).alloc (Nat.le_refl _) (.cells #[.int .i64 0, .string ⟨#[]⟩, .slice none 0 0, .string ⟨#[]⟩] 40)
  go_enter Try.func77, Try.ntmps77
  go_wp2
  exact bodyPost_ret (v := .tuple #[.agg #[.int .i64 0, .string ⟨#[]⟩, .slice none 0 0, .string ⟨#[]⟩], .bool false]) (by simp [results, Try.results77, go_sem]) rfl (GotTag.zero hres.out ((Below.refl _ _).alloc (Nat.le_refl _) _))
set_option maxHeartbeats 2000000 in
theorem tagOf_spec_slash (w : World) (s : ByteArray) (hs : s.size ≤ 60) (h0 : 0 < s.size) (h1 : slashB s = true) : Calls Try.prog 77 #[.string s] w (GotTag w 104 (tagT s)) := by
  have hres := tagT_close (by omega : ¬ 60 < s.size) h1
  have hc : s[0] = 47 := by rw [slashB_at h0] at h1; simpa using h1
  have hcI : ((s[0].toNat : Nat) : Int) = 47 := byte_eq hc
  have h0' : (0 : Int) < s.size := by omega
  have h1' : (1 : Int) ≤ s.size := by omega
  have h2' : (s.size : Int) ≤ 60 := by omega
  have hsz : (s.extract 1 s.size).size ≤ 60 := by rw [ByteArray.size_extract]; omega
  have hb := (Below.refl w.heap.size w).alloc (Nat.le_refl _) (.cells #[.int .i64 0, .string ⟨#[]⟩, .slice none 0 0, .string ⟨#[]⟩] 40)
  generalize hX : s.extract 1 s.size = X at *
  clear h1 hc
  cases hn : nameB X
  · rw [hn] at hres
    have hres' := Lib.hid hres
    clear hres
    go_enter Try.func77, Try.ntmps77
    go_wp2_with (go_at_call 20; refine (isName_spec _ (by omega) _).mono ?_; rintro e w' ⟨rfl, rfl⟩; rw [hn])
    exact bodyPost_ret (v := .tuple #[.agg #[.int .i64 0, .string ⟨#[]⟩, .slice none 0 0, .string ⟨#[]⟩], .bool false]) (by simp [results, Try.results77, go_sem]) rfl (GotTag.zero hres'.out ((Below.refl _ _).alloc (Nat.le_refl _) _))
  · rw [hn] at hres
    have hres' := Lib.hid hres
    clear hres
    go_enter Try.func77, Try.ntmps77
    go_wp2_with (go_at_call 20; refine (isName_spec _ (by omega) _).mono ?_; rintro e w' ⟨rfl, rfl⟩; rw [hn])
    exact bodyPost_ret (v := .tuple #[.agg #[.int .i64 2, .string X, .slice none 0 0, .string ⟨#[]⟩], .bool true]) (by simp [results, Try.results77, go_sem]) rfl (GotTag.bare hres'.out ((Below.refl _ _).alloc (Nat.le_refl _) _))
theorem drop_cons {α : Type} {l : List α} {k : Nat} (h : k < l.length) : l.drop k = l[k] :: l.drop (k + 1) := List.drop_eq_getElem_cons h
set_option maxHeartbeats 8000000 in
theorem tagOf_spec_open (w : World) (s : ByteArray) (hs : s.size ≤ 60) (h1 : slashB s = false) : Calls Try.prog 77 #[.string s] w (GotTag w 104 (tagT s)) := by
  have hT := Lib.hid (tagT_open (by omega : ¬ 60 < s.size) h1)
  have h2' : (s.size : Int) ≤ 60 := by omega
  have hb := (Below.refl w.heap.size w).alloc (Nat.le_refl _) (.cells #[.int .i64 0, .string ⟨#[]⟩, .slice none 0 0, .string ⟨#[]⟩] 40)
  have hB := BoxAt.new (w := w) rfl [.int .i64 0, .string ⟨#[]⟩, .slice none 0 0, .string ⟨#[]⟩] 40
  have hwl := words_le 32 s
  have hwz := words_size 32 s
  have hwp := words_pos 32 s
  have hI : (s.size = 0) ∨ (∃ h0 : 0 < s.size, ((s[0].toNat : Nat) : Int) ≠ 47) := by
    by_cases h0 : s.size = 0
    · exact .inl h0
    · have h0' : 0 < s.size := by omega
      refine .inr ⟨h0', byte_ne (c := 47) ?_⟩
      rw [slashB_at h0'] at h1
      simpa using h1
  have hsp := fun W => l5Split_any W s 32 (by omega)
  generalize hws : words 32 s = ws at *
  rcases ws with _ | ⟨hd, tl⟩
  · simp at hwp
  have hWs := Lib.hid hws
  clear hws hwp h1
  have hlt : tl.length + 1 ≤ 61 := by simp at hwl; omega
  have hzd : hd.size ≤ 60 := Nat.le_trans (hwz hd (by simp)) hs
  rcases hI with h0 | ⟨h0, hne⟩
  · have h0' : (s.size : Int) = 0 := by omega
    go_enter Try.func77, Try.ntmps77
    go_wp2_with (fail)
    go_at_call 91
    refine (hsp _).mono ?_
    clear hsp h0'
    rintro e w1 ⟨A4, c4, rfl, o4, b4⟩
    have hz1 := b4.size
    have hB1 := hB.next b4
    have hb1 := hb.trans (b4.mono hb.size)
    have hr4 := Reads.of_own o4.1
    clear hb hB b4 o4
    obtain ⟨b0, off0, rfl, hbl, hcx⟩ := hr4.place (by omega) (by simp)
    have hc0 : w1.cell? ⟨b0, off0, none⟩ = some (.string hd) := by simpa using hcx 0 _ rfl
    have hg0 : w.heap.size < w1.heap.size := hB1.lt
    clear hr4
    go_wp2
    go_loopw [6] (fun i wr => ∃ (k : Nat) (acc : List S2) (A : Option Addr) (c : Nat), 1 ≤ k ∧ k ≤ tl.length + 1 ∧ i = .int .i64 k ∧ Hid (attrsF tl [] = attrsF ((hd :: tl).drop k) acc) ∧ acc.length + 1 = k ∧ BoxAt wr w1.heap.size [.int .i64 1, .string hd, .slice A acc.length c, .string ⟨#[]⟩] 40 ∧ Own wr (w1.heap.size + 1) wr.heap.size 104 2 (.slice A acc.length c) acc.length (s2V acc) ∧ Below w1.heap.size w1 wr) (fun i _ => tl.length + 1 - (intOf i).toNat)
    case atStart => exact ⟨1, [], none, 0, Nat.le_refl _, by omega, rfl, rfl, rfl, BoxAt.new rfl _ _, own_zero _ _ _ _ _, (Below.refl _ _).alloc (Nat.le_refl _) _⟩
    case round =>
      obtain ⟨k, acc, A, c, hk1, hk2, rfl, hF, hak, hB2, ho, hbel⟩ := hrel
      have hbs := hbel.size
      have hBz := hB1.below hbel hg0
      have hb2 := hb1.trans (hbel.mono (Nat.le_of_lt hg0))
      by_cases hlt2 : k < tl.length + 1
      · exfalso; simp at hwl; omega
      · obtain rfl : k = tl.length + 1 := by omega
        have hF' : attrsF tl [] = some acc := by rw [hF.out, List.drop_eq_nil_of_le (by simp)]; rfl
        have hfull := wordsT_some hWs.out hF'
        have hkE : ((tl.length + 1 : Nat) : Int) ≤ ((tl.length + 1 : Nat) : Int) := Int.le_refl _
        clear hF hF' hcx
        obtain ⟨⟨g0', g1', g2', g3'⟩, q0, q1, q2, q3⟩ := hB2.four
        have hn0 := isName_spec hd (by omega) wr
        cases e0 : nameB hd
        · rw [e0] at hn0 hfull
          have hres : Hid (tagT s = (zeroTok, false)) := by show _ = _; rw [hT.out, hfull]; simp
          clear hfull
          obtain ⟨⟨z0, z1, z2, z3⟩, y0, y1, y2, y3⟩ := (hBz).four
          obtain ⟨⟨f0, f1, f2, f3⟩, -⟩ := ((hBz).four_put (.int .i64 0) (.string ⟨#[]⟩) (.slice none 0 0) (.string ⟨#[]⟩)).four
          go_wp2_with (go_at_call 20; refine hn0.mono ?_; rintro e w' ⟨rfl, rfl⟩)
          exact bodyPost_ret (v := .tuple #[.agg #[.int .i64 0, .string ⟨#[]⟩, .slice none 0 0, .string ⟨#[]⟩], .bool false]) (by simp [results, Try.results77, go_sem, f0, f1, f2, f3]) rfl (GotTag.zero (hres.out) (below_four hb2 (Nat.le_refl _) _ _ _ _))
        · rw [e0] at hn0 hfull
          by_cases h4 : acc.length ≤ 4
          · have h4I : (acc.length : Int) ≤ 4 := by omega
            have hres : Hid (tagT s = (⟨1, hd, acc, ⟨#[]⟩⟩, true)) := by show _ = _; rw [hT.out, hfull]; simp [h4]
            clear hfull h4
            obtain ⟨⟨z0, z1, z2, z3⟩, y0, y1, y2, y3⟩ := hBz.four
            obtain ⟨⟨f0, f1, f2, f3⟩, -⟩ := (hBz.four_put (.int .i64 1) (.string hd) (.slice A acc.length c) (.string ⟨#[]⟩)).four
            have ho4 := (ho.four (g := w.heap.size) (.inl (by omega)) (.int .i64 1) (.string hd) (.slice A acc.length c) (.string ⟨#[]⟩)).wide (lo' := w.heap.size) (by omega) (Nat.le_refl _)
            have hb4 := below_four hb2 (Nat.le_refl _) (.int .i64 1) (.string hd) (.slice A acc.length c) (.string ⟨#[]⟩)
            go_wp2_with (go_at_call 20; refine hn0.mono ?_; rintro e w' ⟨rfl, rfl⟩)
            exact bodyPost_ret (v := .tuple #[.agg #[.int .i64 1, .string hd, .slice A acc.length c, .string ⟨#[]⟩], .bool true]) (by simp [results, Try.results77, go_sem, f0, f1, f2, f3]) rfl (GotTag.full hres.out (ho4.wide (Nat.le_refl _) (by simp [World.setCell])) hb4)
          · have h4I : 4 < (acc.length : Int) := by omega
            have hres : Hid (tagT s = (zeroTok, false)) := by show _ = _; rw [hT.out, hfull]; simp [h4]
            clear hfull h4
            obtain ⟨⟨z0, z1, z2, z3⟩, y0, y1, y2, y3⟩ := (hBz).four
            obtain ⟨⟨f0, f1, f2, f3⟩, -⟩ := ((hBz).four_put (.int .i64 0) (.string ⟨#[]⟩) (.slice none 0 0) (.string ⟨#[]⟩)).four
            go_wp2_with (go_at_call 20; refine hn0.mono ?_; rintro e w' ⟨rfl, rfl⟩)
            exact bodyPost_ret (v := .tuple #[.agg #[.int .i64 0, .string ⟨#[]⟩, .slice none 0 0, .string ⟨#[]⟩], .bool false]) (by simp [results, Try.results77, go_sem, f0, f1, f2, f3]) rfl (GotTag.zero (hres.out) (below_four hb2 (Nat.le_refl _) _ _ _ _))
  · have h0' : (0 : Int) < s.size := by omega
    go_enter Try.func77, Try.ntmps77
    go_wp2_with (fail)
    go_at_call 91
    refine (hsp _).mono ?_
    clear hsp h0' hne
    rintro e w1 ⟨A4, c4, rfl, o4, b4⟩
    have hz1 := b4.size
    have hB1 := hB.next b4
    have hb1 := hb.trans (b4.mono hb.size)
    have hr4 := Reads.of_own o4.1
    clear hb hB b4 o4
    obtain ⟨b0, off0, rfl, hbl, hcx⟩ := hr4.place (by omega) (by simp)
    have hc0 : w1.cell? ⟨b0, off0, none⟩ = some (.string hd) := by simpa using hcx 0 _ rfl
    have hg0 : w.heap.size < w1.heap.size := hB1.lt
    clear hr4
    go_wp2
    go_loopw [6] (fun i wr => ∃ (k : Nat) (acc : List S2) (A : Option Addr) (c : Nat), 1 ≤ k ∧ k ≤ tl.length + 1 ∧ i = .int .i64 k ∧ Hid (attrsF tl [] = attrsF ((hd :: tl).drop k) acc) ∧ acc.length + 1 = k ∧ BoxAt wr w1.heap.size [.int .i64 1, .string hd, .slice A acc.length c, .string ⟨#[]⟩] 40 ∧ Own wr (w1.heap.size + 1) wr.heap.size 104 2 (.slice A acc.length c) acc.length (s2V acc) ∧ Below w1.heap.size w1 wr) (fun i _ => tl.length + 1 - (intOf i).toNat)
    case atStart => exact ⟨1, [], none, 0, Nat.le_refl _, by omega, rfl, rfl, rfl, BoxAt.new rfl _ _, own_zero _ _ _ _ _, (Below.refl _ _).alloc (Nat.le_refl _) _⟩
    case round =>
      obtain ⟨k, acc, A, c, hk1, hk2, rfl, hF, hak, hB2, ho, hbel⟩ := hrel
      have hbs := hbel.size
      have hBz := hB1.below hbel hg0
      have hb2 := hb1.trans (hbel.mono (Nat.le_of_lt hg0))
      by_cases hlt2 : k < tl.length + 1
      · have hl1 : k < (hd :: tl).length := by simpa using hlt2
        have hcx1 : wr.cell? ⟨b0, off0 + k, none⟩ = some (.string (hd :: tl)[k]) := (hbel.cell (p := ⟨b0, off0 + k, none⟩) hbl).trans (hcx k _ (by rw [List.getElem?_map, List.getElem?_eq_getElem hl1]; rfl))
        have hxs : ((hd :: tl)[k]).size ≤ 60 := Nat.le_trans (hwz _ (List.getElem_mem _)) hs
        have hdr := Lib.hid (drop_cons hl1)
        generalize (hd :: tl)[k] = x at *
        have hsp := l5Split_any wr x 61 (by omega)
        have hp1 := words_size 61 x
        have hlt3 : (k : Int) < ((tl.length + 1 : Nat) : Int) := by omega
        generalize hP : words 61 x = p at *
        have HP := Lib.hid hP
        clear hP hcx
        go_wp2_with (fail)
        go_at_call 91
        refine hsp.mono ?_
        rintro e w3 ⟨A7, c7, rfl, o7, b7⟩
        clear hsp
        have hz3 := b7.size
        have hB3 := hB2.next b7
        have hBz3 := hBz.next b7
        have ho3 := ho.below b7
        have hb3 := hb2.trans (b7.mono hb2.size)
        have hbel3 := hbel.trans (b7.mono hbs)
        clear hB2 hBz ho b7 hcx1
        by_cases hl2 : p.length = 2
        · obtain ⟨p0, p1, rfl⟩ := two_list hl2
          have hr7 : Reads w3 w3.heap.size 1 A7 2 [.string p0, .string p1] := Reads.of_own o7.1
          obtain ⟨b7, off7, rfl, hbl7, hcx7⟩ := hr7.place (by omega) (by omega)
          have d0 : w3.cell? ⟨b7, off7, none⟩ = some (.string p0) := by simpa using hcx7 0 _ rfl
          have d1 : w3.cell? ⟨b7, off7 + 1, none⟩ = some (.string p1) := hcx7 1 _ rfl
          have hq0 : p0.size ≤ 60 := Nat.le_trans (hp1 p0 (by simp)) hxs
          have hq1 : p1.size ≤ 60 := Nat.le_trans (hp1 p1 (by simp)) hxs
          have hAW := attrW_two HP.out
          clear hr7 hcx7 o7 hp1 hl2
          have hn0 := isName_spec p0 (by omega) w3
          have hn1 := isValue_spec p1 (by omega) w3
          cases e0 : nameB p0
          · rw [e0] at hn0 hAW
            have hres : Hid (tagT s = (zeroTok, false)) := by show _ = _; rw [hT.out]; exact wordsT_none hWs.out (by rw [hF.out, hdr.out]; exact attrsF_bad (by simpa using hAW))
            clear hAW
            obtain ⟨⟨z0, z1, z2, z3⟩, y0, y1, y2, y3⟩ := (hBz3).four
            obtain ⟨⟨f0, f1, f2, f3⟩, -⟩ := ((hBz3).four_put (.int .i64 0) (.string ⟨#[]⟩) (.slice none 0 0) (.string ⟨#[]⟩)).four
            go_wp2_with (first | (go_at_call 20; refine hn0.mono ?_; rintro e w' ⟨rfl, rfl⟩) | (go_at_call 92; refine hn1.mono ?_; rintro e w' ⟨rfl, rfl⟩))
            exact bodyPost_ret (v := .tuple #[.agg #[.int .i64 0, .string ⟨#[]⟩, .slice none 0 0, .string ⟨#[]⟩], .bool false]) (by simp [results, Try.results77, go_sem, f0, f1, f2, f3]) rfl (GotTag.zero (hres.out) (below_four hb3 (Nat.le_refl _) _ _ _ _))
          · cases e1 : valueB p1
            · rw [e0] at hn0
              rw [e1] at hn1
              rw [e0, e1] at hAW
              have hres : Hid (tagT s = (zeroTok, false)) := by show _ = _; rw [hT.out]; exact wordsT_none hWs.out (by rw [hF.out, hdr.out]; exact attrsF_bad (by simpa using hAW))
              clear hAW
              obtain ⟨⟨z0, z1, z2, z3⟩, y0, y1, y2, y3⟩ := (hBz3).four
              obtain ⟨⟨f0, f1, f2, f3⟩, -⟩ := ((hBz3).four_put (.int .i64 0) (.string ⟨#[]⟩) (.slice none 0 0) (.string ⟨#[]⟩)).four
              go_wp2_with (first | (go_at_call 20; refine hn0.mono ?_; rintro e w' ⟨rfl, rfl⟩) | (go_at_call 92; refine hn1.mono ?_; rintro e w' ⟨rfl, rfl⟩))
              exact bodyPost_ret (v := .tuple #[.agg #[.int .i64 0, .string ⟨#[]⟩, .slice none 0 0, .string ⟨#[]⟩], .bool false]) (by simp [results, Try.results77, go_sem, f0, f1, f2, f3]) rfl (GotTag.zero (hres.out) (below_four hb3 (Nat.le_refl _) _ _ _ _))
            · rw [e0] at hn0
              rw [e1] at hn1
              rw [e0, e1] at hAW
              have hAW' : attrW x = some (p0, p1) := by simpa using hAW
              clear hAW
              go_wp2_with (first
                | (go_at_call 20; refine hn0.mono ?_; rintro e w' ⟨rfl, rfl⟩)
                | (go_at_call 92; refine hn1.mono ?_; rintro e w' ⟨rfl, rfl⟩))
              have hra : Reads w3.drew w3.drew.heap.size 2 A acc.length (s2V acc) := Reads.of_own ho3.1
              have hbk : w1.heap.size < w3.heap.size := hB3.lt
              obtain ⟨⟨g0', g1', g2', g3'⟩, q0, q1, q2, q3⟩ := hB3.four
              have hacc : acc.length ≤ 60 := by omega
              generalize hFV : findV acc p0 = FV at *
              have HFV := Lib.hid hFV
              have hfa := fun (W : World) (h : Reads W W.heap.size 2 A acc.length (s2V acc)) => (findAttr_spec (c := c) p0 W h (by omega))
              rw [hFV] at hfa
              clear hFV hn0 hn1
              obtain ⟨fv, tw⟩ := FV
              simp only at hfa
              go_region_held3 (fun v : World => v.cell? ⟨w1.heap.size, 2, none⟩ = some (.slice A acc.length c) ∧ v.cell? ⟨b7, off7, none⟩ = some (.string p0))
                (first
                  | exact ⟨g2', d0⟩
                  | (refine ⟨?_, ?_⟩ <;> simp only [World.cell?_drew] <;> assumption))
                (first
                  | (go_at_call 93
                     refine (hfa _ hra).mono ?_
                     rintro e w5 ⟨rfl, b5⟩
                     have g2' := ((bcell b5).1 _ _ (by first | omega | (simp; omega))).trans g2'
                     have d0 := ((bcell b5).1 _ _ (by first | omega | (simp; omega))).trans d0))
              have hB5 := BoxAt.next (w := w3.drew) hB3 b5
              have hBz5 := BoxAt.next (w := w3.drew) hBz3 b5
              have ho5 := Own.below (w := w3.drew) ho3 b5
              have hb5 := hb3.drew.trans (b5.mono hb3.drew.size)
              have hbel5 := hbel3.drew.trans (b5.mono hbel3.drew.size)
              have d1 := ((bcell b5).1 _ _ (by first | omega | (simp; omega))).trans d1
              have hz5 := b5.size
              simp only [World.size_drew] at hz5
              clear hB3 hBz3 ho3 hb3 hbel3 b5 hra hfa g0' g1' g2' g3' q0 q1 q2 q3
              cases tw
              · have hF' : Hid (attrsF tl [] = attrsF ((hd :: tl).drop (k + 1)) (acc ++ [(p0, p1)])) := hF.out.trans (by rw [hdr.out]; exact attrsF_step hAW' (by show (findV acc p0).2 = _; rw [HFV.out]))
                clear hF HFV hAW'
                obtain ⟨⟨g0', g1', g2', g3'⟩, q0, q1, q2, q3⟩ := hB5.four
                have hl1 := (Below.refl w5.heap.size w5).alloc (Nat.le_refl _) (.cells #[.string p0, .string p1] 104)
                have ho5' : (w5.alloc (.cells #[.string p0, .string p1] 104)).drew.ownsRow (w1.heap.size + 1) 104 2 (.slice A acc.length c) acc.length (s2V acc) := (ho5.below hl1).1
                have hr5 : Reads (w5.alloc (.cells #[.string p0, .string p1] 104)).drew (w5.heap.size + 1) 2 (some ⟨w5.heap.size, 0, none⟩) 1 [.string p0, .string p1] := Reads.pair2 w5 (.string p0) (.string p1) 104
                have hgw : w1.heap.size + 1 ≤ w5.heap.size := hB5.lt
                go_wp2_with (fail)
                have ga := ((bcell hl1).1 _ _ hgw).trans g2'
                go_region_law (refine step_app row_Attr (by rfl) (.tmp 77) (.tmp 85) (by rfl) (w1.heap.size + 1) A acc.length c (s2V acc) (by rfl) ho5' _ _ 1 1 [.string p0, .string p1] (by rfl) hr5 (s2_one [(p0, p1)]) k (s2V (acc ++ [(p0, p1)])) hak (by rw [s2V_append]; rfl) ⟨by omega, by omega⟩ (by simp; omega) ?_; intro A6 c6 w6 ho6 b6; have q6 : Below (w1.heap.size + 1) w5 w6 := (((Below.refl (w1.heap.size + 1) w5).alloc hgw _).drew).trans b6; have gb := ((bcell q6).1 _ _ (Nat.lt_succ_self _)).trans g2'; have gc := ((bcell q6).2 _ _ (Nat.lt_succ_self _)).trans q2)
                all_goals
                  have hB7 := (hB5.below q6 (Nat.lt_succ_self _)).put (j := 2) (.slice A6 k c6)
                  have hbel7 := (hbel5.trans (q6.mono (Nat.le_succ _))).setCell (p := ⟨w1.heap.size, 2, none⟩) (Nat.le_refl _) (.slice A6 k c6)
                  have ho7 := ((Own.of_row ho6).set (p := ⟨w1.heap.size, 2, none⟩) (Nat.lt_succ_self _) (.slice A6 k c6)).wide (Nat.le_refl _) (show _ ≤ (w6.setCell ⟨w1.heap.size, 2, none⟩ (.slice A6 k c6)).heap.size by simp [World.setCell])
                  have hlen : (acc ++ [(p0, p1)]).length = k := by rw [List.length_append]; exact hak
                  clear ho6 b6 q6 gb gc hB5 hBz5 ho5 hb5 hbel5 ho5' hr5 ga hl1 g0' g1' g2' g3' q0 q1 q2 q3 d0 d1 hak
                  go_wp2
                  go_roundw
                  case rel => exact ⟨k + 1, acc ++ [(p0, p1)], A6, c6, by omega, by omega, by go_num, hF', by rw [hlen], by rw [hlen]; exact hB7, by rw [hlen]; exact ho7, hbel7⟩
                  case measure => simp [intOf]; omega
              · have hres : Hid (tagT s = (zeroTok, false)) := by show _ = _; rw [hT.out]; exact wordsT_none hWs.out (by rw [hF.out, hdr.out]; exact attrsF_twice hAW' (by show (findV acc p0).2 = _; rw [HFV.out]))
                clear hAW' hF HFV
                obtain ⟨⟨z0, z1, z2, z3⟩, y0, y1, y2, y3⟩ := (hBz5).four
                obtain ⟨⟨f0, f1, f2, f3⟩, -⟩ := ((hBz5).four_put (.int .i64 0) (.string ⟨#[]⟩) (.slice none 0 0) (.string ⟨#[]⟩)).four
                go_wp2
                exact bodyPost_ret (v := .tuple #[.agg #[.int .i64 0, .string ⟨#[]⟩, .slice none 0 0, .string ⟨#[]⟩], .bool false]) (by simp [results, Try.results77, go_sem, f0, f1, f2, f3]) rfl (GotTag.zero (hres.out) (below_four hb5 (Nat.le_refl _) _ _ _ _))
        · have hlI : (((p.length : Nat) : Int) != 2) = true := by simp only [bne_iff_ne, ne_eq]; omega
          have hres : Hid (tagT s = (zeroTok, false)) := by show _ = _; rw [hT.out]; exact wordsT_none hWs.out (by rw [hF.out, hdr.out]; exact attrsF_bad (attrW_len (by rw [HP.out]; exact hl2)))
          clear hl2
          obtain ⟨⟨z0, z1, z2, z3⟩, y0, y1, y2, y3⟩ := (hBz3).four
          obtain ⟨⟨f0, f1, f2, f3⟩, -⟩ := ((hBz3).four_put (.int .i64 0) (.string ⟨#[]⟩) (.slice none 0 0) (.string ⟨#[]⟩)).four
          go_wp2
          exact bodyPost_ret (v := .tuple #[.agg #[.int .i64 0, .string ⟨#[]⟩, .slice none 0 0, .string ⟨#[]⟩], .bool false]) (by simp [results, Try.results77, go_sem, f0, f1, f2, f3]) rfl (GotTag.zero (hres.out) (below_four hb3 (Nat.le_refl _) _ _ _ _))
      · obtain rfl : k = tl.length + 1 := by omega
        have hF' : attrsF tl [] = some acc := by rw [hF.out, List.drop_eq_nil_of_le (by simp)]; rfl
        have hfull := wordsT_some hWs.out hF'
        have hkE : ((tl.length + 1 : Nat) : Int) ≤ ((tl.length + 1 : Nat) : Int) := Int.le_refl _
        clear hF hF' hcx
        obtain ⟨⟨g0', g1', g2', g3'⟩, q0, q1, q2, q3⟩ := hB2.four
        have hn0 := isName_spec hd (by omega) wr
        cases e0 : nameB hd
        · rw [e0] at hn0 hfull
          have hres : Hid (tagT s = (zeroTok, false)) := by show _ = _; rw [hT.out, hfull]; simp
          clear hfull
          obtain ⟨⟨z0, z1, z2, z3⟩, y0, y1, y2, y3⟩ := (hBz).four
          obtain ⟨⟨f0, f1, f2, f3⟩, -⟩ := ((hBz).four_put (.int .i64 0) (.string ⟨#[]⟩) (.slice none 0 0) (.string ⟨#[]⟩)).four
          go_wp2_with (go_at_call 20; refine hn0.mono ?_; rintro e w' ⟨rfl, rfl⟩)
          exact bodyPost_ret (v := .tuple #[.agg #[.int .i64 0, .string ⟨#[]⟩, .slice none 0 0, .string ⟨#[]⟩], .bool false]) (by simp [results, Try.results77, go_sem, f0, f1, f2, f3]) rfl (GotTag.zero (hres.out) (below_four hb2 (Nat.le_refl _) _ _ _ _))
        · rw [e0] at hn0 hfull
          by_cases h4 : acc.length ≤ 4
          · have h4I : (acc.length : Int) ≤ 4 := by omega
            have hres : Hid (tagT s = (⟨1, hd, acc, ⟨#[]⟩⟩, true)) := by show _ = _; rw [hT.out, hfull]; simp [h4]
            clear hfull h4
            obtain ⟨⟨z0, z1, z2, z3⟩, y0, y1, y2, y3⟩ := hBz.four
            obtain ⟨⟨f0, f1, f2, f3⟩, -⟩ := (hBz.four_put (.int .i64 1) (.string hd) (.slice A acc.length c) (.string ⟨#[]⟩)).four
            have ho4 := (ho.four (g := w.heap.size) (.inl (by omega)) (.int .i64 1) (.string hd) (.slice A acc.length c) (.string ⟨#[]⟩)).wide (lo' := w.heap.size) (by omega) (Nat.le_refl _)
            have hb4 := below_four hb2 (Nat.le_refl _) (.int .i64 1) (.string hd) (.slice A acc.length c) (.string ⟨#[]⟩)
            go_wp2_with (go_at_call 20; refine hn0.mono ?_; rintro e w' ⟨rfl, rfl⟩)
            exact bodyPost_ret (v := .tuple #[.agg #[.int .i64 1, .string hd, .slice A acc.length c, .string ⟨#[]⟩], .bool true]) (by simp [results, Try.results77, go_sem, f0, f1, f2, f3]) rfl (GotTag.full hres.out (ho4.wide (Nat.le_refl _) (by simp [World.setCell])) hb4)
          · have h4I : 4 < (acc.length : Int) := by omega
            have hres : Hid (tagT s = (zeroTok, false)) := by show _ = _; rw [hT.out, hfull]; simp [h4]
            clear hfull h4
            obtain ⟨⟨z0, z1, z2, z3⟩, y0, y1, y2, y3⟩ := (hBz).four
            obtain ⟨⟨f0, f1, f2, f3⟩, -⟩ := ((hBz).four_put (.int .i64 0) (.string ⟨#[]⟩) (.slice none 0 0) (.string ⟨#[]⟩)).four
            go_wp2_with (go_at_call 20; refine hn0.mono ?_; rintro e w' ⟨rfl, rfl⟩)
            exact bodyPost_ret (v := .tuple #[.agg #[.int .i64 0, .string ⟨#[]⟩, .slice none 0 0, .string ⟨#[]⟩], .bool false]) (by simp [results, Try.results77, go_sem, f0, f1, f2, f3]) rfl (GotTag.zero (hres.out) (below_four hb2 (Nat.le_refl _) _ _ _ _))
end Go.Proofs.Ytleopmeaaabejaa
