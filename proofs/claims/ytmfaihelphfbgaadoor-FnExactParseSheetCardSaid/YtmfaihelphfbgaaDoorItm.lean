/-
  Contracts of FormatInt and ParseInt of the program, of ParseInt of the reference; the walks of two laws. Conditions: the tables and sentinels of strconv as the text lays them; strings of at most 2^30 bytes.
-/
import Derived.Test.YtmfaihelphfbgaaDoorPi
import Derived.Test.YtmfaihelphfbgaaDoorLad
import Derived.Test.YtmfaihelphfbgaaDoorShf
import Derived.Lib.AppendIntMem
import Derived.Lib.SmallJoins
namespace Go.Proofs.YtmfaihelphfbgaaDoor
set_option linter.unusedVariables false
set_option linter.unusedSimpArgs false
set_option maxRecDepth 100000
open Go.ChangeShapes Go.WideShapes Go.ChangeAt Go.RowKit Go.Deep

theorem formatInt_impl (w : World) (hld : LdF w) (n : Int) (h1 : -9223372036854775808 ≤ n) (h2 : n ≤ 9223372036854775807) : Calls Tryd.prog 12 #[.int .i64 n] w fun e w' => e = .returned (.string (fmtI n)) ∧ Below w.heap.size w w' := by
  have hcon := Tryd.strconv_Itoa n h1 h2 w hld.tab
  go_enter Tryd.func12, Tryd.ntmps12
  go_wp2_with (go_at_call 33; refine hcon.mono ?_; rintro e w' ⟨rfl, k, os, rfl⟩)
  go_ret
  exact ⟨rfl, Lib.below_grow _ _ (Nat.le_refl _) _ _⟩
theorem exactFormatInt_walk (w : World) (hld : LdF w) (n : Int) (h1 : -9223372036854775808 ≤ n) (h2 : n ≤ 9223372036854775807) : Calls Tryd.prog 5 #[.int .i64 n] w fun e w' => e = .returned (.bool true) ∧ Below w.heap.size w w' := by
  go_enter Tryd.func5, Tryd.ntmps5
  go_wp2_with (fail)
  go_at_call 21
  refine (formatInt_spec n _ h1 h2).mono ?_
  rintro e w1 ⟨rfl, b1⟩
  go_wp2_with (fail)
  go_at_call 12
  refine (formatInt_impl _ (hld.below b1) n h1 h2).mono ?_
  rintro e w2 ⟨rfl, b2⟩
  go_wp2
  go_ret
  exact ⟨rfl, b1.trans (b2.mono b1.size)⟩
theorem parse_not {s : ByteArray} {v : Int} (h : Lib.atoiAll s.data.toList = .ok v) (hv : ¬ (0 ≤ v ∧ v ≤ 1000000000000 ∧ fmtI v = s)) : okI s = false := by
  cases e : okI s with
  | false => rfl
  | true =>
    have h1 := okI_true e
    have h2 := okI_atoi e
    rw [h] at h2
    injection h2 with h2
    rw [h2] at hv
    exact absurd h1 hv
theorem parse_yes {s : ByteArray} {v : Int} (h0 : 0 ≤ v) (h1 : v ≤ 1000000000000) (h2 : fmtI v = s) : okI s = true ∧ valI s = v := by subst h2; exact okI_fmt h0 h1
theorem parse_none {s : ByteArray} (h : Lib.atoiAll s.data.toList ≠ .ok (valI s)) : okI s = false := by
  cases e : okI s with
  | false => rfl
  | true => exact absurd (okI_atoi e) h
set_option maxHeartbeats 1000000 in
theorem parseInt_impl (w : World) (hld : LdP w) (s : ByteArray) (hs : s.size ≤ 1073741824) : Calls Tryd.prog 10 #[.string s] w fun e w' => e = .returned (.tuple #[.int .i64 (valI s), .bool (okI s)]) ∧ Below w.heap.size w w' := by
  cases h : Lib.atoiAll s.data.toList
  case ok v =>
    obtain ⟨b1, b2⟩ := Lib.atoiAll_bounds h
    have hcon := Tryd.strconv_Atoi_ok s (by omega) v h w
    have hcon2 : Calls Tryd.prog 31 #[.string s] w fun e w' => e = .returned (.tuple #[.int .i64 v, .nilIface]) ∧ Below w.heap.size w w' := hcon.mono fun e w' ⟨he, hw⟩ => ⟨he, by
      rcases hw with rfl | ⟨t, rfl⟩
      · exact Below.refl _ _
      · exact Lib.bytesWorld_below _ _ _⟩
    clear hcon
    by_cases hr : 0 ≤ v ∧ v ≤ 1000000000000
    · obtain ⟨r1, r2⟩ := hr
      have hfc := fun (w1 : World) (hb : Below w.heap.size w w1) => formatInt_impl w1 (hld.below hb).toLdF v (by omega) (by omega)
      by_cases he : fmtI v = s
      · obtain ⟨k1, k2⟩ := parse_yes r1 r2 he
        have hres := Lib.hid (ret_ib k2.symm k1.symm)
        rw [he] at hfc
        clear h k1 k2 he
        go_enter Tryd.func10, Tryd.ntmps10
        go_wp2_with (fail)
        go_at_call 31
        refine hcon2.mono ?_
        rintro e w1 ⟨rfl, bb⟩
        go_wp2_with (fail)
        go_at_call 12
        refine (hfc _ bb).mono ?_
        rintro e w2 ⟨rfl, b2⟩
        go_wp2
        go_ret2
        exact ⟨hres.out, bb.trans (b2.mono bb.size)⟩
      · have k1 := parse_not h (fun hh => he hh.2.2)
        have hres := Lib.hid (ret_ib (valI_false k1).symm k1.symm)
        have hne : ((fmtI v).toList == s.toList) = false := by rw [toList_eq_iff]; simpa using he
        clear h k1 he
        generalize fmtI v = F at *
        go_enter Tryd.func10, Tryd.ntmps10
        go_wp2_with (fail)
        go_at_call 31
        refine hcon2.mono ?_
        rintro e w1 ⟨rfl, bb⟩
        go_wp2_with (fail)
        go_at_call 12
        refine (hfc _ bb).mono ?_
        rintro e w2 ⟨rfl, b2⟩
        go_wp2
        go_ret2
        exact ⟨hres.out, bb.trans (b2.mono bb.size)⟩
    · have k1 := parse_not h (fun hh => hr ⟨hh.1, hh.2.1⟩)
      have hres := Lib.hid (ret_ib (valI_false k1).symm k1.symm)
      clear h k1
      by_cases hn : v < 0
      · clear hr
        go_enter Tryd.func10, Tryd.ntmps10
        go_wp2_with (go_at_call 31; refine hcon2.mono ?_; rintro e w1 ⟨rfl, bb⟩)
        go_ret2
        exact ⟨hres.out, bb⟩
      · have hn1 : 0 ≤ v := by omega
        have hn2 : 1000000000000 < v := by omega
        clear hr hn
        go_enter Tryd.func10, Tryd.ntmps10
        go_wp2_with (go_at_call 31; refine hcon2.mono ?_; rintro e w1 ⟨rfl, bb⟩)
        go_ret2
        exact ⟨hres.out, bb⟩
  case range =>
    have k1 := parse_none (s := s) (by rw [h]; intro hh; cases hh)
    have hres := Lib.hid (ret_ib (valI_false k1).symm k1.symm)
    obtain ⟨tp, p, hv⟩ := hld.rng
    have hcon := Tryd.strconv_Atoi_range_var s (by omega) h tp p w hv
    clear h k1 hv
    go_enter Tryd.func10, Tryd.ntmps10
    go_wp2_with (go_at_call 31; refine hcon.mono ?_; rintro e w1 ⟨N, rfl, -, -, bb⟩)
    go_ret2
    exact ⟨hres.out, bb⟩
  have k1 := parse_none (s := s) (by rw [h]; intro hh; cases hh)
  have hres := Lib.hid (ret_ib (valI_false k1).symm k1.symm)
  obtain ⟨tp, p, hv⟩ := hld.syn
  have hcon := Tryd.strconv_Atoi_syntax_var s (by omega) h tp p w hv
  clear h k1 hv
  go_enter Tryd.func10, Tryd.ntmps10
  go_wp2_with (go_at_call 31; refine hcon.mono ?_; rintro e w1 ⟨N, rfl, -, -, bb⟩)
  go_ret2
  exact ⟨hres.out, bb⟩
theorem exactParseInt_walk (w : World) (hld : LdP w) (s : ByteArray) (g0 : s.size ≤ maxLen) : Calls Tryd.prog 7 #[.string s] w fun e w' => e = .returned (.bool true) ∧ Below w.heap.size w w' := by
  unfold maxLen at g0
  by_cases xx : 1048576 < s.size
  · go_enter Tryd.func7, Tryd.ntmps7
    go_wp2
    go_ret
    exact ⟨rfl, Below.refl _ _⟩
  have X0 : s.size ≤ 1048576 := by omega
  clear xx
  go_enter Tryd.func7, Tryd.ntmps7
  go_wp2_with (fail)
  go_at_call 26
  refine (parseInt_spec _ s (by omega)).mono ?_
  rintro e w1 ⟨rfl, b1⟩
  go_wp2_with (fail)
  go_at_call 10
  refine (parseInt_impl _ (hld.below b1) s (by omega)).mono ?_
  rintro e w2 ⟨rfl, b2⟩
  go_wp2
  go_ret
  exact ⟨rfl, b1.trans (b2.mono b1.size)⟩
end Go.Proofs.YtmfaihelphfbgaaDoor
