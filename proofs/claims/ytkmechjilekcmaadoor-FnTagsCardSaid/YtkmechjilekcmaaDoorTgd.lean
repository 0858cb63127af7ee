/-
  What the law of tags draws. No condition.
-/
import Derived.Test.YtkmechjilekcmaaDoorL5t
import Derived.Test.YtkmechjilekcmaaDoorBig
namespace Go.Proofs.YtkmechjilekcmaaDoor
set_option linter.unusedVariables false
set_option linter.unusedSimpArgs false
set_option maxRecDepth 100000
open Go.ChangeShapes Go.WideShapes Go.ChangeAt Go.RowKit Go.Deep

set_option maxHeartbeats 1000000 in
theorem drawTagOf_any {A : Option Addr} {n c : Nat} {zs : List Int} (w : World) (hx : Reads w w.heap.size 1 A n (zs.map (Value.int .u8))) (hn : n ≤ 1048576) (hz : ∀ z ∈ zs, 0 ≤ z ∧ z ≤ 255) :
    Calls Tryd.prog 14 #[.slice A n c] w fun e w' => ∃ s : ByteArray, plainB s = true ∧ s.size ≤ 200 ∧ e = .returned (.string s) ∧ Below w.heap.size w w' := by
  go_enter Tryd.func14, Tryd.ntmps14
  go_wp2_with (fail)
  go_at_call 43
  refine (l1New_any _ hx hn hz).mono ?_
  rintro e w0 ⟨g, hg, rfl, hb, hc⟩
  clear hx hz
  have hd := Draws.refl hc
  go_wp2_with (fail)
  go_at_call 44
  refine (l1Once_any _ g hd.2 12 (by omega) (by omega)).mono ?_
  rintro e w1 ⟨o, rfl, d⟩
  replace hd := hd.trans d
  clear d
  cases o
  · go_wp2_with (fail)
    go_at_call 46
    refine (l5Tag_any _ g hd.2).mono ?_
    rintro e w3 ⟨z, hz1, hz2, rfl, d⟩
    replace hd := hd.trans d
    clear d
    go_wp2
    go_ret
    exact ⟨z, hz1, hz2, rfl, hb.trans (hd.below hb.size hg)⟩
  · go_wp2_with (fail)
    go_at_call 45
    refine (l1Str_any _ g (hd.alloc _).2 _ 3 [⟨#[]⟩, ⟨#[97]⟩, ⟨#[97, 97]⟩] (by have := hd.lt; omega) (by omega) (by omega) rfl (fun j v h => alloc_vals _ _ _ j v h) (alloc_lt _ _)).mono ?_
    rintro e w3 ⟨s, hs, rfl, d⟩
    replace hd := (hd.alloc _).trans d
    have hsz : plainB s = true ∧ s.size ≤ 60 := by
      simp only [List.mem_cons, List.not_mem_nil, or_false] at hs
      rcases hs with rfl | rfl | rfl <;> exact ⟨by decide, by decide⟩
    obtain ⟨hs1, hs2⟩ := hsz
    clear d hs
    go_wp2
    go_ret
    have hq : (⟨#[112, 32, 97, 61, 97, 97, 97, 97, 97, 97, 97, 97, 97, 97, 97, 97, 97, 97, 97, 97, 97, 97, 32, 98, 61, 97, 97, 97, 97, 97, 97, 97, 97, 97, 97, 97, 97, 97, 97, 97, 97, 97, 97, 32, 99, 61, 97, 97, 97, 97, 97, 97, 97, 97, 97, 97, 97, 97, 97, 97]⟩ : ByteArray).size ≤ 60 := by decide
    exact ⟨(⟨#[112, 32, 97, 61, 97, 97, 97, 97, 97, 97, 97, 97, 97, 97, 97, 97, 97, 97, 97, 97, 97, 97, 32, 98, 61, 97, 97, 97, 97, 97, 97, 97, 97, 97, 97, 97, 97, 97, 97, 97, 97, 97, 97, 32, 99, 61, 97, 97, 97, 97, 97, 97, 97, 97, 97, 97, 97, 97, 97, 97]⟩ : ByteArray) ++ s, plainB_app (by decide) hs1, by rw [ByteArray.size_append]; omega, rfl, hb.trans (hd.below hb.size hg)⟩
set_option maxHeartbeats 1000000 in
theorem drawIsValue_any {A : Option Addr} {n c : Nat} {zs : List Int} (w : World) (hx : Reads w w.heap.size 1 A n (zs.map (Value.int .u8))) (hn : n ≤ 1048576) (hz : ∀ z ∈ zs, 0 ≤ z ∧ z ≤ 255) :
    Calls Tryd.prog 17 #[.slice A n c] w fun e w' => ∃ s : ByteArray, s.size ≤ 60 ∧ e = .returned (.string s) ∧ Below w.heap.size w w' := by
  go_enter Tryd.func17, Tryd.ntmps17
  go_wp2_with (fail)
  go_at_call 43
  refine (l1New_any _ hx hn hz).mono ?_
  rintro e w0 ⟨g, hg, rfl, hb, hc⟩
  clear hx hz
  have hd := Draws.refl hc
  go_wp2_with (fail)
  go_at_call 45
  refine (l1Str_any _ g (hd.alloc _).2 _ 7 [⟨#[]⟩, ⟨#[97]⟩, ⟨#[99, 100, 110, 47, 108, 105, 98]⟩, ⟨#[65]⟩, ⟨#[97, 32, 98]⟩, ⟨#[49, 50, 51, 52, 53, 54, 55, 56, 57, 48, 49, 50, 51, 52, 53, 54, 55, 56, 57, 48]⟩, ⟨#[49, 50, 51, 52, 53, 54, 55, 56, 57, 48, 49, 50, 51, 52, 53, 54, 55, 56, 57, 48, 49]⟩] (by have := hd.lt; omega) (by omega) (by omega) rfl (fun j v h => alloc_vals _ _ _ j v h) (alloc_lt _ _)).mono ?_
  rintro e w3 ⟨s, hs, rfl, d⟩
  replace hd := (hd.alloc _).trans d
  have hsz : s.size ≤ 60 := by
    simp only [List.mem_cons, List.not_mem_nil, or_false] at hs
    rcases hs with rfl | rfl | rfl | rfl | rfl | rfl | rfl <;> decide
  clear d hs
  go_wp2
  go_ret
  exact ⟨s, hsz, rfl, hb.trans (hd.below hb.size hg)⟩
end Go.Proofs.YtkmechjilekcmaaDoor
