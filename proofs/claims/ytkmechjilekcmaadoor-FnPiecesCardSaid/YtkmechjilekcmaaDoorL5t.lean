/-
  The reference's draw of a tag: some string without '<' and '>'. No condition.
-/
import Derived.Test.YtkmechjilekcmaaDoorBig
namespace Go.Proofs.YtkmechjilekcmaaDoor
set_option linter.unusedVariables false
set_option linter.unusedSimpArgs false
set_option maxRecDepth 100000
open Go.ChangeShapes Go.WideShapes Go.ChangeAt Go.RowKit Go.Deep

/-- no angle bracket -/
def plainB (s : ByteArray) : Bool := s.data.toList.all fun b => b != 60 && b != 62
theorem plainB_app {a b : ByteArray} (h1 : plainB a = true) (h2 : plainB b = true) : plainB (a ++ b) = true := by
  unfold plainB at *
  rw [ByteArray.data_append, Array.toList_append, List.all_append, h1, h2]
  rfl
set_option maxHeartbeats 2000000 in
theorem l5Tag_any (w : World) (g : Nat) (hc : Cur w g) : Calls Tryd.prog 46 #[.pointer (some ⟨g, 0, none⟩)] w fun e w' => ∃ s : ByteArray, plainB s = true ∧ s.size ≤ 200 ∧ e = .returned (.string s) ∧ Draws g w w' := by
  have hd := Draws.refl hc
  go_enter Tryd.func46, Tryd.ntmps46
  go_wp2_with (fail)
  go_at_call 50
  refine (l1Below_any _ g hd.2 8 (by omega) (by omega)).mono ?_
  rintro e w1 ⟨x, hx1, hx2, rfl, d⟩
  replace hd := hd.trans d
  clear d
  have hx : x = 0 ∨ x = 1 ∨ x = 2 ∨ x = 3 ∨ x = 4 ∨ x = 5 ∨ (5 < x) := by omega
  rcases hx with rfl | rfl | rfl | rfl | rfl | rfl | hx
  · go_wp2_with (fail)
    go_at_call 45
    refine (l1Str_any _ g (hd.alloc _).2 _ 4 [⟨#[112]⟩, ⟨#[98]⟩, ⟨#[115, 99, 114, 105, 112, 116]⟩, ⟨#[112, 97, 103, 101]⟩] (by have := hd.lt; omega) (by omega) (by omega) rfl (fun j v h => alloc_vals _ _ _ j v h) (alloc_lt _ _)).mono ?_
    rintro e w3 ⟨z1, hz1, rfl, d1⟩
    replace hd := (hd.alloc _).trans d1
    have hp1 : plainB z1 = true ∧ z1.size ≤ 60 := by
      simp only [List.mem_cons, List.not_mem_nil, or_false] at hz1
      rcases hz1 with rfl | rfl | rfl | rfl <;> exact ⟨by decide, by decide⟩
    obtain ⟨hp1a, hp1b⟩ := hp1
    clear d1 hz1
    go_wp2
    go_ret
    have hq : (⟨#[47]⟩ : ByteArray).size ≤ 20 := by decide
    exact ⟨(⟨#[47]⟩ : ByteArray) ++ z1, plainB_app (by decide) hp1a, by rw [ByteArray.size_append]; omega, rfl, hd⟩
  · go_wp2_with (fail)
    go_at_call 45
    refine (l1Str_any _ g (hd.alloc _).2 _ 4 [⟨#[97, 112, 112]⟩, ⟨#[99, 100, 110, 47, 108, 105, 98]⟩, ⟨#[108, 105, 98]⟩, ⟨#[101, 118, 105, 108, 47, 97, 112, 112]⟩] (by have := hd.lt; omega) (by omega) (by omega) rfl (fun j v h => alloc_vals _ _ _ j v h) (alloc_lt _ _)).mono ?_
    rintro e w3 ⟨z1, hz1, rfl, d1⟩
    replace hd := (hd.alloc _).trans d1
    have hp1 : plainB z1 = true ∧ z1.size ≤ 60 := by
      simp only [List.mem_cons, List.not_mem_nil, or_false] at hz1
      rcases hz1 with rfl | rfl | rfl | rfl <;> exact ⟨by decide, by decide⟩
    obtain ⟨hp1a, hp1b⟩ := hp1
    clear d1 hz1
    go_wp2
    go_ret
    have hq : (⟨#[115, 99, 114, 105, 112, 116, 32, 115, 114, 99, 61]⟩ : ByteArray).size ≤ 20 := by decide
    exact ⟨(⟨#[115, 99, 114, 105, 112, 116, 32, 115, 114, 99, 61]⟩ : ByteArray) ++ z1, plainB_app (by decide) hp1a, by rw [ByteArray.size_append]; omega, rfl, hd⟩
  · go_wp2_with (fail)
    go_at_call 45
    refine (l1Str_any _ g (hd.alloc _).2 _ 2 [⟨#[97, 112, 112]⟩, ⟨#[117, 116, 105, 108]⟩] (by have := hd.lt; omega) (by omega) (by omega) rfl (fun j v h => alloc_vals _ _ _ j v h) (alloc_lt _ _)).mono ?_
    rintro e w3 ⟨z1, hz1, rfl, d1⟩
    replace hd := (hd.alloc _).trans d1
    have hp1 : plainB z1 = true ∧ z1.size ≤ 60 := by
      simp only [List.mem_cons, List.not_mem_nil, or_false] at hz1
      rcases hz1 with rfl | rfl <;> exact ⟨by decide, by decide⟩
    obtain ⟨hp1a, hp1b⟩ := hp1
    clear d1 hz1
    go_wp2_with (fail)
    go_at_call 45
    refine (l1Str_any _ g (hd.alloc _).2 _ 2 [⟨#[100, 101, 102, 101, 114]⟩, ⟨#[109, 111, 100, 117, 108, 101]⟩] (by have := hd.lt; omega) (by omega) (by omega) rfl (fun j v h => alloc_vals _ _ _ j v h) (alloc_lt _ _)).mono ?_
    rintro e w4 ⟨z2, hz2, rfl, d2⟩
    replace hd := (hd.alloc _).trans d2
    have hp2 : plainB z2 = true ∧ z2.size ≤ 60 := by
      simp only [List.mem_cons, List.not_mem_nil, or_false] at hz2
      rcases hz2 with rfl | rfl <;> exact ⟨by decide, by decide⟩
    obtain ⟨hp2a, hp2b⟩ := hp2
    clear d2 hz2
    go_wp2
    go_ret
    have hq : (⟨#[115, 99, 114, 105, 112, 116, 32, 115, 114, 99, 61]⟩ : ByteArray).size ≤ 20 := by decide
    have hr : (⟨#[32, 107, 105, 110, 100, 61]⟩ : ByteArray).size ≤ 20 := by decide
    exact ⟨(⟨#[115, 99, 114, 105, 112, 116, 32, 115, 114, 99, 61]⟩ : ByteArray) ++ z1 ++ (⟨#[32, 107, 105, 110, 100, 61]⟩ : ByteArray) ++ z2, plainB_app (plainB_app (plainB_app (by decide) hp1a) (by decide)) hp2a, by rw [ByteArray.size_append, ByteArray.size_append, ByteArray.size_append]; omega, rfl, hd⟩
  · go_wp2_with (fail)
    go_at_call 45
    refine (l1Str_any _ g (hd.alloc _).2 _ 2 [⟨#[108, 111, 103, 111]⟩, ⟨#[99, 100, 110, 47, 108, 111, 103, 111]⟩] (by have := hd.lt; omega) (by omega) (by omega) rfl (fun j v h => alloc_vals _ _ _ j v h) (alloc_lt _ _)).mono ?_
    rintro e w3 ⟨z1, hz1, rfl, d1⟩
    replace hd := (hd.alloc _).trans d1
    have hp1 : plainB z1 = true ∧ z1.size ≤ 60 := by
      simp only [List.mem_cons, List.not_mem_nil, or_false] at hz1
      rcases hz1 with rfl | rfl <;> exact ⟨by decide, by decide⟩
    obtain ⟨hp1a, hp1b⟩ := hp1
    clear d1 hz1
    go_wp2
    go_ret
    have hq : (⟨#[105, 109, 103, 32, 115, 114, 99, 61]⟩ : ByteArray).size ≤ 20 := by decide
    exact ⟨(⟨#[105, 109, 103, 32, 115, 114, 99, 61]⟩ : ByteArray) ++ z1, plainB_app (by decide) hp1a, by rw [ByteArray.size_append]; omega, rfl, hd⟩
  · go_wp2_with (fail)
    go_at_call 45
    refine (l1Str_any _ g (hd.alloc _).2 _ 2 [⟨#[115, 116, 121, 108, 101]⟩, ⟨#[99, 100, 110, 47, 115, 116, 121, 108, 101]⟩] (by have := hd.lt; omega) (by omega) (by omega) rfl (fun j v h => alloc_vals _ _ _ j v h) (alloc_lt _ _)).mono ?_
    rintro e w3 ⟨z1, hz1, rfl, d1⟩
    replace hd := (hd.alloc _).trans d1
    have hp1 : plainB z1 = true ∧ z1.size ≤ 60 := by
      simp only [List.mem_cons, List.not_mem_nil, or_false] at hz1
      rcases hz1 with rfl | rfl <;> exact ⟨by decide, by decide⟩
    obtain ⟨hp1a, hp1b⟩ := hp1
    clear d1 hz1
    go_wp2
    go_ret
    have hq : (⟨#[108, 105, 110, 107, 32, 104, 114, 101, 102, 61]⟩ : ByteArray).size ≤ 20 := by decide
    exact ⟨(⟨#[108, 105, 110, 107, 32, 104, 114, 101, 102, 61]⟩ : ByteArray) ++ z1, plainB_app (by decide) hp1a, by rw [ByteArray.size_append]; omega, rfl, hd⟩
  · go_wp2_with (fail)
    go_at_call 45
    refine (l1Str_any _ g (hd.alloc _).2 _ 10 [⟨#[112, 32, 97, 61, 98]⟩, ⟨#[]⟩, ⟨#[80]⟩, ⟨#[112, 32, 97]⟩, ⟨#[112, 32, 97, 61]⟩, ⟨#[112, 32, 32, 97, 61, 98]⟩, ⟨#[112, 32, 97, 61, 98, 32, 97, 61, 99]⟩, ⟨#[112, 32, 97, 61, 98, 32, 98, 61, 99, 32, 99, 61, 100, 32, 100, 61, 101, 32, 101, 61, 102]⟩, ⟨#[47]⟩, ⟨#[112, 32, 97, 61, 98, 61, 99]⟩] (by have := hd.lt; omega) (by omega) (by omega) rfl (fun j v h => alloc_vals _ _ _ j v h) (alloc_lt _ _)).mono ?_
    rintro e w3 ⟨z1, hz1, rfl, d1⟩
    replace hd := (hd.alloc _).trans d1
    have hp1 : plainB z1 = true ∧ z1.size ≤ 60 := by
      simp only [List.mem_cons, List.not_mem_nil, or_false] at hz1
      rcases hz1 with rfl | rfl | rfl | rfl | rfl | rfl | rfl | rfl | rfl | rfl <;> exact ⟨by decide, by decide⟩
    obtain ⟨hp1a, hp1b⟩ := hp1
    clear d1 hz1
    go_wp2
    go_ret
    exact ⟨z1, hp1a, by omega, rfl, hd⟩
  · go_wp2_with (fail)
    go_at_call 45
    refine (l1Str_any _ g (hd.alloc _).2 _ 4 [⟨#[112]⟩, ⟨#[98]⟩, ⟨#[112, 97, 103, 101]⟩, ⟨#[115, 99, 114, 105, 112, 116]⟩] (by have := hd.lt; omega) (by omega) (by omega) rfl (fun j v h => alloc_vals _ _ _ j v h) (alloc_lt _ _)).mono ?_
    rintro e w3 ⟨z1, hz1, rfl, d1⟩
    replace hd := (hd.alloc _).trans d1
    have hp1 : plainB z1 = true ∧ z1.size ≤ 60 := by
      simp only [List.mem_cons, List.not_mem_nil, or_false] at hz1
      rcases hz1 with rfl | rfl | rfl | rfl <;> exact ⟨by decide, by decide⟩
    obtain ⟨hp1a, hp1b⟩ := hp1
    clear d1 hz1
    go_wp2
    go_ret
    exact ⟨z1, hp1a, by omega, rfl, hd⟩
end Go.Proofs.YtkmechjilekcmaaDoor
