/-
  The reference's draws of a page and of a tag's inside: some string. No condition.
-/
import Derived.Test.YtkmechjilekcmaaDoorL5t
namespace Go.Proofs.YtkmechjilekcmaaDoor
set_option linter.unusedVariables false
set_option linter.unusedSimpArgs false
set_option maxRecDepth 100000
open Go.ChangeShapes Go.WideShapes Go.ChangeAt Go.RowKit Go.Deep

set_option maxHeartbeats 2000000 in
theorem l5Page_any (w : World) (g : Nat) (hc : Cur w g) (m : Nat) (hm : m ≤ 100) : Calls Tryd.prog 49 #[.pointer (some ⟨g, 0, none⟩), .int .i64 m] w fun e w' => ∃ s : ByteArray, s.size ≤ 40000 ∧ e = .returned (.string s) ∧ Draws g w w' := by
  have hd := Draws.refl hc
  go_enter Tryd.func49, Tryd.ntmps49
  go_wp2_with (fail)
  go_at_call 50
  refine (l1Below_any _ g hd.2 ((m : Int) + 1) (by omega) (by omega)).mono ?_
  rintro e w1 ⟨x, hx1, hx2, rfl, d⟩
  replace hd := hd.trans d
  clear d
  obtain ⟨n, rfl⟩ := Int.eq_ofNat_of_zero_le hx1
  go_wp2_with (fail)
  go_loopw [5, 6] (fun v i wr => ∃ (k : Nat) (s : ByteArray), s.size + 300 * k ≤ 300 * n ∧ i = .int .i64 k ∧ v = .string s ∧ Draws g w wr) (fun _ i _ => (intOf i).toNat)
  case atStart => exact ⟨n, ⟨#[]⟩, by simp [ByteArray.size], rfl, rfl, hd⟩
  case round =>
    clear hd
    obtain ⟨k, s, hk, rfl, rfl, hd⟩ := hrel
    have hs : s.size ≤ 30000 := by omega
    by_cases hlt : 0 < k
    · have hltI : (0 : Int) < (k : Int) := by omega
      go_wp2_with (fail)
      go_at_call 44
      refine (l1Once_any _ g hd.2 3 (by omega) (by omega)).mono ?_
      rintro e w2 ⟨o, rfl, d⟩
      replace hd := hd.trans d
      clear d
      cases o
      · go_wp2_with (fail)
        go_at_call 46
        refine (l5Tag_any _ g hd.2).mono ?_
        rintro e w3 ⟨z, hz1, hz2, rfl, d⟩
        replace hd := hd.trans d
        clear d hz1
        have h1 : (⟨#[60]⟩ : ByteArray).size = 1 := rfl
        have h2 : (⟨#[62]⟩ : ByteArray).size = 1 := rfl
        have hsz : (s ++ ⟨#[60]⟩ ++ z ++ ⟨#[62]⟩).size = s.size + z.size + 2 := by
          rw [ByteArray.size_append, ByteArray.size_append, ByteArray.size_append, h1, h2]
          omega
        clear h1 h2
        go_wp2
        go_roundw
        case rel => exact ⟨k - 1, _, by rw [hsz]; omega, by congr 1; omega, rfl, hd⟩
        case measure => simp [intOf]; omega
      · go_wp2_with (fail)
        go_at_call 45
        refine (l1Str_any _ g (hd.alloc _).2 _ 5 [⟨#[104, 105]⟩, ⟨#[97, 32, 98]⟩, ⟨#[99, 111, 117, 110, 116]⟩, ⟨#[120, 62, 121]⟩, ⟨#[]⟩] (by have := hd.lt; omega) (by omega) (by omega) rfl (fun j v h => alloc_vals _ _ _ j v h) (alloc_lt _ _)).mono ?_
        rintro e w3 ⟨z, hz, rfl, d⟩
        replace hd := (hd.alloc _).trans d
        have hz2 : z.size ≤ 60 := by
          simp only [List.mem_cons, List.not_mem_nil, or_false] at hz
          rcases hz with rfl | rfl | rfl | rfl | rfl <;> decide
        clear d hz
        go_wp2
        go_roundw
        case rel => exact ⟨k - 1, s ++ z, by rw [ByteArray.size_append]; omega, by congr 1; omega, rfl, hd⟩
        case measure => simp [intOf]; omega
    · obtain rfl : k = 0 := by omega
      go_wp2_with (fail)
      go_at_call 44
      refine (l1Once_any _ g hd.2 6 (by omega) (by omega)).mono ?_
      rintro e w2 ⟨o, rfl, d⟩
      replace hd := hd.trans d
      clear d
      cases o
      · go_wp2
        go_ret
        exact ⟨s, by omega, rfl, hd⟩
      · go_wp2_with (fail)
        go_at_call 45
        refine (l1Str_any _ g (hd.alloc _).2 _ 3 [⟨#[60, 112]⟩, ⟨#[60]⟩, ⟨#[101, 110, 100]⟩] (by have := hd.lt; omega) (by omega) (by omega) rfl (fun j v h => alloc_vals _ _ _ j v h) (alloc_lt _ _)).mono ?_
        rintro e w3 ⟨z, hz, rfl, d⟩
        replace hd := (hd.alloc _).trans d
        have hz2 : z.size ≤ 60 := by
          simp only [List.mem_cons, List.not_mem_nil, or_false] at hz
          rcases hz with rfl | rfl | rfl <;> decide
        clear d hz
        go_wp2
        go_ret
        exact ⟨s ++ z, by rw [ByteArray.size_append]; omega, rfl, hd⟩
end Go.Proofs.YtkmechjilekcmaaDoor
