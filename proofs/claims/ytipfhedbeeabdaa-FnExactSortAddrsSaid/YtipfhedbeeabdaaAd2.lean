/-
  Contracts of the generated helpers on structs of two strings and on slices of them: measure. Conditions: at most 2^30 elements, sizes of Go strings.
-/
import Derived.Test.YtipfhedbeeabdaaMrk
import Derived.Deep.RegionWith
namespace Go.Proofs.Ytipfhedbeeabdaa
set_option linter.unusedVariables false
set_option linter.unusedSimpArgs false
set_option maxRecDepth 100000
open Go.ChangeShapes Go.WideShapes Go.ChangeAt Go.RowKit Go.Deep

theorem szAddr_s2 (a : S2) (ha : a.1.size ≤ 9223372036854775807) (hb : a.2.size ≤ 9223372036854775807) (left : Int) (h0 : 0 ≤ left) (h1 : left ≤ 1048576) (w : World) :
    Calls Try.prog 37 #[.agg #[.string a.1, .string a.2], .int .i64 left] w (Sz left (a.1.size + a.2.size) w) := by
  go_enter Try.func37, Try.ntmps37
  go_wp2
  all_goals go_ret
  all_goals refine ⟨_, rfl, ?_, ?_, ?_, (Below.refl _ _).alloc (Nat.le_refl _) _⟩
  all_goals omega
set_option maxHeartbeats 400000 in
theorem szAddrS_s2 {A : Option Addr} {n c : Nat} {l : List S2} (w : World) (hx : Reads w w.heap.size 2 A n (s2V l)) (hn : n ≤ 9223372036854775807) (hz : ∀ a ∈ l, a.1.size ≤ 9223372036854775807 ∧ a.2.size ≤ 9223372036854775807) (left : Int) (h0 : 0 ≤ left) (h1 : left ≤ 1048576) :
    Calls Try.prog 17 #[.slice A n c, .int .i64 left] w (Sz left (n + s2sz l) w) := by
  by_cases hbig : left < n
  · go_enter Try.func17, Try.ntmps17
    go_wp2
    go_ret
    exact ⟨-1, rfl, by omega, by omega, by omega, Below.refl _ _⟩
  · have lx := Lib.hid hx.len2
    have hle : (n : Int) ≤ left := by omega
    go_enter Try.func17, Try.ntmps17
    go_wp2
    go_loopw [1, 5] (fun p i wr => ∃ (k : Nat) (m : Int), k ≤ n ∧ i = .int .i64 k ∧ p = .int .i64 m ∧ 0 ≤ m ∧ m ≤ left ∧ Hid (n + s2sz (l.take k) + m ≤ left) ∧ Below w.heap.size w wr) (fun _ i _ => n - (intOf i).toNat)
    case atStart => exact ⟨0, left - n, Nat.zero_le _, rfl, rfl, by omega, by omega, by show _ ≤ _; simp [s2sz]; omega, Below.refl _ _⟩
    case round =>
      obtain ⟨k, m, hk, rfl, rfl, hm0, hm1, hcur, hbel⟩ := hrel
      have hbs := hbel.size
      by_cases hlt : k < n
      · obtain ⟨b0, off0, rfl, hab, hcx⟩ := (hx.below hbel).two hlt
        have hl1 : k < l.length := by rw [lx.out]; exact hlt
        obtain ⟨hc0, hc1⟩ := hcx hl1
        obtain ⟨hz0, hz1⟩ := hz l[k] (List.getElem_mem _)
        have hT : Hid (s2sz (l.take (k + 1)) = s2sz (l.take k) + (l[k].1.size + l[k].2.size)) := s2sz_take hl1
        generalize l[k] = a at *
        clear hx hz hcx
        go_wp2_with (go_at_call 37; refine (szAddr_s2 a hz0 hz1 m hm0 (by omega) _).mono ?_; rintro e w1 ⟨r, rfl, hr1, hr2, hr3, b1⟩; have H3 := Lib.hid hr3; clear hr3)
        all_goals first
          | (go_ret; exact ⟨-1, rfl, by omega, by omega, by omega, hbel.trans (b1.mono hbs)⟩)
          | (go_roundw
             case rel => exact ⟨k + 1, r, by omega, by go_num, rfl, by omega, by omega, by show _ ≤ _; rw [hT.out]; have := H3.out (by omega); have := hcur.out; omega, hbel.trans (b1.mono hbs)⟩
             case measure => simp [intOf]; omega)
      · obtain rfl : k = n := by omega
        have he : Hid (l.take k = l) := by show _ = _; exact List.take_of_length_le (by rw [lx.out]; exact Nat.le_refl _)
        clear hx hz
        go_wp2
        go_ret
        exact ⟨m, rfl, by omega, by omega, fun _ => by have := hcur.out; rw [he.out] at this; exact this, hbel⟩

end Go.Proofs.Ytipfhedbeeabdaa
