/-
  Contracts of the generated helpers on structs of two strings and on slices of them: compare, copy. Conditions: at most 2^30 elements, sizes of Go strings.
-/
import Derived.Test.YtkmechjilekcmaaDoorMrk
import Derived.Deep.RegionWith
namespace Go.Proofs.YtkmechjilekcmaaDoor
set_option linter.unusedVariables false
set_option linter.unusedSimpArgs false
set_option maxRecDepth 100000
open Go.ChangeShapes Go.WideShapes Go.ChangeAt Go.RowKit Go.Deep


theorem info_Attr : (Tryd.prog.info? 57).map (fun i => (i.zero, i.size, i.bytes)) = some (some (.agg #[.string ⟨#[]⟩, .string ⟨#[]⟩]), 2, 32) := by kernel_rfl
theorem row_Attr : RowT Tryd.prog 22 57 2 32 := RowT.mk' Tryd.underlying22 info_Attr rfl (by omega)
theorem eqAttr_yes (a : S2) (w : World) : Calls Tryd.prog 60 #[.agg #[.string a.1, .string a.2], .agg #[.string a.1, .string a.2]] w fun e w' => e = .returned (.bool true) ∧ Below w.heap.size w w' := by
  go_enter Tryd.func60, Tryd.ntmps60
  go_wp2
  go_ret
  exact ⟨rfl, ((Below.refl _ _).alloc (Nat.le_refl _) _).alloc (by simp) _⟩
set_option maxHeartbeats 400000 in
theorem eqAttrS_yes {A A' : Option Addr} {n n' c c' : Nat} {l : List S2} (w : World) (hx : Reads w w.heap.size 2 A n (s2V l)) (hy : Reads w w.heap.size 2 A' n' (s2V l)) (hn : n ≤ 1073741824) :
    Calls Tryd.prog 40 #[.slice A n c, .slice A' n' c'] w fun e w' => e = .returned (.bool true) ∧ Below w.heap.size w w' := by
  have lx := hx.len2
  have ly := hy.len2
  obtain rfl : n = n' := by omega
  have Lx := Lib.hid lx
  clear lx ly
  go_enter Tryd.func40, Tryd.ntmps40
  go_wp2
  go_loopw [5] (fun i wr => ∃ k : Nat, k ≤ n ∧ i = .int .i64 k ∧ Below w.heap.size w wr) (fun i _ => n - (intOf i).toNat)
  case atStart => exact ⟨0, Nat.zero_le _, rfl, Below.refl _ _⟩
  case round =>
    obtain ⟨k, hk, rfl, hbel⟩ := hrel
    have hbs := hbel.size
    by_cases hlt : k < n
    · obtain ⟨b0, off0, rfl, hab, hcx⟩ := (hx.below hbel).two hlt
      obtain ⟨b1, off1, rfl, hab', hcy⟩ := (hy.below hbel).two hlt
      have hl1 : k < l.length := by rw [Lx.out]; exact hlt
      obtain ⟨hc0, hc1⟩ := hcx hl1
      obtain ⟨hd0, hd1⟩ := hcy hl1
      have hk0 : (0 : Int) ≤ (k : Int) := Int.natCast_nonneg _
      have hk9 : (k : Int) < (n : Int) := by omega
      generalize l[k] = a at *
      clear hx hy hcx hcy
      go_wp2_with fail
      go_region_with (go_at_call 60; refine (eqAttr_yes a _).mono ?_; rintro e w1 ⟨rfl, bb1⟩)
      all_goals
        go_wp2
        go_roundw
        case rel => exact ⟨k + 1, by omega, by go_num, (hbel.drew).trans (bb1.mono hbs)⟩
        case measure => simp [intOf]; omega
    · obtain rfl : k = n := by omega
      go_wp2
      go_ret
      exact ⟨rfl, hbel⟩
end Go.Proofs.YtkmechjilekcmaaDoor
