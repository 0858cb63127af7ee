/-
  The law FnIntegers: what it draws, its plain law, its walk. Conditions: the tables and sentinels of strconv as the text lays them.
-/
import Derived.Test.YtmfaihelphfbgaaDoorItm
import Derived.Test.YtmfaihelphfbgaaDoorBig
namespace Go.Proofs.YtmfaihelphfbgaaDoor
set_option linter.unusedVariables false
set_option linter.unusedSimpArgs false
set_option maxRecDepth 100000
open Go.ChangeShapes Go.WideShapes Go.ChangeAt Go.RowKit Go.Deep

set_option maxHeartbeats 400000 in
theorem drawFormatInt_any {A : Option Addr} {n c : Nat} {zs : List Int} (w : World) (hx : Reads w w.heap.size 1 A n (zs.map (Value.int .u8))) (hn : n ≤ 1048576) (hz : ∀ z ∈ zs, 0 ≤ z ∧ z ≤ 255) :
    Calls Tryd.prog 11 #[.slice A n c] w fun e w' => ∃ k : Int, -9223372036854775808 ≤ k ∧ k ≤ 9223372036854775807 ∧ e = .returned (.int .i64 k) ∧ Below w.heap.size w w' := by
  go_enter Tryd.func11, Tryd.ntmps11
  go_wp2_with (fail)
  go_at_call 27
  refine (l1New_any _ hx hn hz).mono ?_
  rintro e w0 ⟨g, hg, rfl, hb, hc⟩
  clear hx hz
  have hd := Draws.refl hc
  go_wp2_with (fail)
  go_at_call 32
  refine (l1One_any _ g hd.2).mono ?_
  rintro e w1 ⟨k, hk1, hk2, rfl, d⟩
  replace hd := hd.trans d
  clear d
  go_wp2
  go_ret
  exact ⟨k, hk1, hk2, rfl, hb.trans (hd.below hb.size hg)⟩
set_option maxHeartbeats 400000 in
theorem drawCeilDiv_any {A : Option Addr} {n c : Nat} {zs : List Int} (w : World) (hx : Reads w w.heap.size 1 A n (zs.map (Value.int .u8))) (hn : n ≤ 1048576) (hz : ∀ z ∈ zs, 0 ≤ z ∧ z ≤ 255) :
    Calls Tryd.prog 13 #[.slice A n c] w fun e w' => ∃ a b : Int, -9223372036854775808 ≤ a ∧ a ≤ 9223372036854775807 ∧ -9223372036854775808 ≤ b ∧ b ≤ 9223372036854775807 ∧ e = .returned (.tuple #[.int .i64 a, .int .i64 b]) ∧ Below w.heap.size w w' := by
  go_enter Tryd.func13, Tryd.ntmps13
  go_wp2_with (fail)
  go_at_call 27
  refine (l1New_any _ hx hn hz).mono ?_
  rintro e w0 ⟨g, hg, rfl, hb, hc⟩
  clear hx hz
  have hd := Draws.refl hc
  go_wp2_with (fail)
  go_at_call 32
  refine (l1One_any _ g hd.2).mono ?_
  rintro e w1 ⟨a, ha1, ha2, rfl, d⟩
  replace hd := hd.trans d
  clear d
  go_wp2_with (fail)
  go_at_call 32
  refine (l1One_any _ g hd.2).mono ?_
  rintro e w2 ⟨b, hb1, hb2, rfl, d⟩
  replace hd := hd.trans d
  clear d
  go_wp2
  go_ret2
  exact ⟨a, b, ha1, ha2, hb1, hb2, rfl, hb.trans (hd.below hb.size hg)⟩
set_option maxHeartbeats 800000 in
theorem drawParseInt_any {A : Option Addr} {n c : Nat} {zs : List Int} (w : World) (hx : Reads w w.heap.size 1 A n (zs.map (Value.int .u8))) (hn : n ≤ 1048576) (hz : ∀ z ∈ zs, 0 ≤ z ∧ z ≤ 255) :
    Calls Tryd.prog 9 #[.slice A n c] w fun e w' => ∃ s : ByteArray, s.size ≤ 1000 ∧ e = .returned (.string s) ∧ Below w.heap.size w w' := by
  go_enter Tryd.func9, Tryd.ntmps9
  go_wp2_with (fail)
  go_at_call 27
  refine (l1New_any _ hx hn hz).mono ?_
  rintro e w0 ⟨g, hg, rfl, hb, hc⟩
  clear hx hz
  have hd := Draws.refl hc
  go_wp2_with (fail)
  go_at_call 28
  refine (l1Once_any _ g hd.2 2 (by omega) (by omega)).mono ?_
  rintro e w1 ⟨o, rfl, d⟩
  replace hd := hd.trans d
  clear d
  cases o
  · go_wp2_with (fail)
    go_at_call 30
    refine (l1Num_any _ g hd.2).mono ?_
    rintro e w2 ⟨x, hx1, hx2, rfl, d⟩
    replace hd := hd.trans d
    clear d
    go_wp2_with (fail)
    go_at_call 21
    refine (formatInt_spec x _ (by omega) (by omega)).mono ?_
    rintro e w3 ⟨rfl, b3⟩
    have hsz := (fmtI_size hx1 hx2).2
    go_wp2
    go_ret
    have hb2 := hb.trans (hd.below hb.size hg)
    exact ⟨fmtI x, by omega, rfl, hb2.trans (b3.mono hb2.size)⟩
  · go_wp2_with (fail)
    go_at_call 29
    refine (l1Str_any _ g (hd.alloc _).2 _ 11 [⟨#[]⟩, ⟨#[48]⟩, ⟨#[48, 48]⟩, ⟨#[45, 49]⟩, ⟨#[48, 49]⟩, ⟨#[55]⟩, ⟨#[49, 48, 48, 48, 48, 48, 48, 48, 48, 48, 48, 48, 48]⟩, ⟨#[49, 48, 48, 48, 48, 48, 48, 48, 48, 48, 48, 48, 49]⟩, ⟨#[57, 57, 57, 57, 57, 57, 57, 57, 57, 57, 57, 57, 57, 57]⟩, ⟨#[49, 120]⟩, ⟨#[32, 49]⟩] (by have := hd.lt; omega) (by omega) (by omega) rfl (fun j v h => alloc_vals _ _ _ j v h) (alloc_lt _ _)).mono ?_
    rintro e w3 ⟨s, hs, rfl, d⟩
    replace hd := (hd.alloc _).trans d
    have hsz : s.size ≤ 1000 := by
      simp only [List.mem_cons, List.not_mem_nil, or_false] at hs
      rcases hs with rfl | rfl | rfl | rfl | rfl | rfl | rfl | rfl | rfl | rfl | rfl <;> decide
    clear d hs
    go_wp2
    go_ret
    exact ⟨s, hsz, rfl, hb.trans (hd.below hb.size hg)⟩
def ceilZ (a b : Int) : Int := if 0 ≤ a ∧ a ≤ 1000000000000 ∧ 1 ≤ b ∧ b ≤ 1000000000000 then (a + b - 1) / b else 0
set_option maxHeartbeats 400000 in
theorem ceilDiv_impl (a b : Int) (h1 : -9223372036854775808 ≤ a) (h2 : a ≤ 9223372036854775807) (h3 : -9223372036854775808 ≤ b) (h4 : b ≤ 9223372036854775807) (w : World) :
    Calls Tryd.prog 14 #[.int .i64 a, .int .i64 b] w fun e w' => e = .returned (.int .i64 (ceilZ a b)) ∧ w = w' := by
  have hin : ∀ n x y : Int, ∀ w, Calls Tryd.prog 34 #[.int .i64 n, .int .i64 x, .int .i64 y] w fun e w' => e = .returned (.bool (inR n x y)) ∧ w = w' := inRange_impl
  by_cases ha : 0 ≤ a ∧ a ≤ 1000000000000
  · by_cases hb : 1 ≤ b ∧ b ≤ 1000000000000
    · have hres := Lib.hid (show ceilZ a b = (a + b - 1).tdiv b by rw [ceilZ, if_pos ⟨ha.1, ha.2, hb.1, hb.2⟩, Int.tdiv_eq_ediv_of_nonneg (by omega)])
      have k1 := inR_t ha.1 ha.2
      have k2 := inR_t hb.1 hb.2
      obtain ⟨a1, a2⟩ := ha
      obtain ⟨b1, b2⟩ := hb
      have hd1 : 0 ≤ (a + b - 1).tdiv b := Int.tdiv_nonneg (by omega) (by omega)
      have hd2 : (a + b - 1).tdiv b ≤ 2000000000000 := by
        rw [Int.tdiv_eq_ediv_of_nonneg (by omega)]
        exact Int.le_trans (Int.ediv_le_self _ (by omega)) (by omega)
      go_enter Tryd.func14, Tryd.ntmps14
      go_wp2_with (go_at_call 34; refine (inRange_impl _ _ _ _).mono ?_; rintro e w' ⟨rfl, rfl⟩)
      go_ret
      exact ⟨ret_int hres.out.symm, rfl⟩
    · have hres := Lib.hid (show ceilZ a b = 0 by rw [ceilZ, if_neg (fun h => hb ⟨h.2.2.1, h.2.2.2⟩)])
      have k1 := inR_t ha.1 ha.2
      have k2 : inR b 1 1000000000000 = false := inR_f (by omega)
      clear ha hb
      go_enter Tryd.func14, Tryd.ntmps14
      go_wp2_with (go_at_call 34; refine (inRange_impl _ _ _ _).mono ?_; rintro e w' ⟨rfl, rfl⟩)
      go_ret
      exact ⟨ret_int hres.out.symm, rfl⟩
  · have hres := Lib.hid (show ceilZ a b = 0 by rw [ceilZ, if_neg (fun h => ha ⟨h.1, h.2.1⟩)])
    have k1 : inR a 0 1000000000000 = false := inR_f (by omega)
    clear ha
    go_enter Tryd.func14, Tryd.ntmps14
    go_wp2_with (go_at_call 34; refine (inRange_impl _ _ _ _).mono ?_; rintro e w' ⟨rfl, rfl⟩)
    go_ret
    exact ⟨ret_int hres.out.symm, rfl⟩
theorem ceil_law {a b : Int} (h1 : 0 ≤ a) (h2 : a ≤ 1000000000000) (h3 : 1 ≤ b) (h4 : b ≤ 1000000000000) : a ≤ ceilZ a b * b ∧ ceilZ a b * b - a < b ∧ 0 ≤ ceilZ a b ∧ ceilZ a b ≤ 2000000000000 := by
  rw [ceilZ, if_pos ⟨h1, h2, h3, h4⟩]
  have e := Int.mul_ediv_add_emod (a + b - 1) b
  have r1 := Int.emod_nonneg (a + b - 1) (show b ≠ 0 by omega)
  have r2 := Int.emod_lt_of_pos (a + b - 1) (show 0 < b by omega)
  rw [Int.mul_comm b] at e
  refine ⟨by omega, by omega, Int.ediv_nonneg (by omega) (by omega), Int.le_trans (Int.ediv_le_self _ (by omega)) (by omega)⟩
theorem ceil_out {a b : Int} (h : a < 0 ∨ 1000000000000 < a ∨ b < 1 ∨ 1000000000000 < b) : ceilZ a b = 0 := by rw [ceilZ, if_neg (by omega)]
end Go.Proofs.YtmfaihelphfbgaaDoor
