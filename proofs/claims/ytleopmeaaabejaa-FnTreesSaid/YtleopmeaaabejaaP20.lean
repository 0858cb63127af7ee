/-
  Contracts of the functions that draw, second part: a new cursor, numbers below a bound, an element of a list, bytes.
  Contracts of the functions that draw, third part: numbers.
  Contracts of the law's test 'big'; two small steps from what is owned to what is read. Condition: none but the size of a slice.
  The reference's draw of a tag: some string without '<' and '>'. No condition.
  The reference's draws of a page and of a tag's inside: some string. No condition.
  Plain words: what a tokenizer makes of a text does not depend on the pieces in which it comes. No program is named. No condition.
  Contracts of FormatToken of the program and of the reference. Conditions: at most 2^30 attributes, sizes of at most 2^30 in all.
-/
import Derived.Test.YtleopmeaaabejaaP19
import Derived.Test.YtleopmeaaabejaaP16
import Derived.Deep.QuietTactic
import Derived.BigQuiet
import Derived.Test.YtleopmeaaabejaaP04
namespace Go.Proofs.Ytleopmeaaabejaa
set_option linter.unusedVariables false
set_option linter.unusedSimpArgs false
set_option maxRecDepth 100000
open Go.ChangeShapes Go.WideShapes Go.ChangeAt Go.RowKit Go.Deep

section
variable {g : Nat} {w w1 w2 : World}
theorem Draws.refl (h : Cur w g) : Draws g w w := ⟨Keeps.refl _ _, h⟩
theorem Draws.lt (h : Draws g w w1) : g < w1.heap.size := h.2.lt
theorem Draws.size (h : Draws g w w1) : w.heap.size ≤ w1.heap.size := h.1.size
theorem Draws.trans (h : Draws g w w1) (k : Draws g w1 w2) : Draws g w w2 := ⟨h.1.trans k.1, k.2⟩
theorem Draws.next {B : Nat} (h : Draws g w w1) (hb : Below B w1 w2) (hB : w.heap.size ≤ B) (hg : g < w.heap.size) : Draws g w w2 :=
  ⟨⟨hb.os.trans h.1.os, hb.tape.trans h.1.tape, hb.output.trans h.1.output, Nat.le_trans h.1.size hb.size, fun i hi hn => (hb.block i (by omega)).trans (h.1.block i hi hn)⟩, h.2.below hb (by omega)⟩
theorem Draws.alloc (h : Draws g w w1) (o : Obj) : Draws g w (w1.alloc o) :=
  have hb : Below w1.heap.size w1 (w1.alloc o) := (Below.refl _ _).alloc (Nat.le_refl _) _
  ⟨h.1.trans (Keeps.of_below hb), h.2.below hb h.lt⟩
theorem Draws.below {B : Nat} (h : Draws g w w1) (hB : B ≤ w.heap.size) (hg : B ≤ g) : Below B w w1 := h.1.below hB fun k hk => by omega
theorem own_draws {lo n size : Nat} {e : TypeId} {v : Value} {xs : List Value} (h : w1.ownsRow lo e size v n xs) (hd : Draws g w1 w2) (hg : g < lo) : w2.ownsRow lo e size v n xs :=
  ((Own.of_row h).keep hd.1 fun k hk => .inl (by omega)).1
theorem alloc_vals (w : World) (vs : List Value) (t : TypeId) (j : Nat) (v : Value) (h : vs[j]? = some v) : (w.alloc (.cells vs.toArray t)).cell? ⟨w.heap.size, j, none⟩ = some v := by
  rw [World.cell?_alloc_at _ _ _ _ rfl]
  simpa using h
theorem alloc_new (w : World) (o : Obj) : (w.alloc o).heap[w.heap.size]? = some o := by
  show (w.heap.push o)[w.heap.size]? = _
  exact Array.getElem?_push_size
end

set_option maxHeartbeats 400000 in
theorem l1New_any {A : Option Addr} {n c : Nat} {zs : List Int} (w : World) (hx : Reads w w.heap.size 1 A n (zs.map (Value.int .u8))) (hn : n ≤ 1048576) (hz : ∀ z ∈ zs, 0 ≤ z ∧ z ≤ 255) :
    Calls Try.prog 33 #[.slice A n c] w fun e w' => ∃ g, w.heap.size ≤ g ∧ e = .returned (.pointer (some ⟨g, 0, none⟩)) ∧ Below w.heap.size w w' ∧ Cur w' g := by
  have lx : Hid (zs.length = n) := by show zs.length = n; simpa using hx.1
  go_enter Try.func33, Try.ntmps33
  go_wp2
  go_loop [3, 4] (fun p i => ∃ (k : Nat) (h : Int), k ≤ n ∧ i = .int .i64 k ∧ p = .int .i64 h ∧ 0 ≤ h ∧ h ≤ 1073741823) (fun _ i => n - (intOf i).toNat)
  case atStart => exact ⟨0, _, Nat.zero_le _, rfl, rfl, by omega, by omega⟩
  case round =>
    obtain ⟨k, h, hk, rfl, rfl, h0, h1⟩ := hrel
    by_cases hlt : k < n
    · by_cases h4 : k < 4000
      · obtain ⟨b0, off0, rfl, hab, hcx⟩ := hx.num hlt
        have hl1 : k < zs.length := by rw [lx.out]; exact hlt
        replace hcx := hcx hl1
        obtain ⟨hv1, hv2⟩ := hz zs[k] (List.getElem_mem _)
        generalize zs[k] = x at *
        have hb := and_in (h * 137 + x + 11) 1073741823 (by omega)
        clear hx hz
        go_wp2
        go_round
        case rel => exact ⟨k + 1, _, by omega, by go_num, rfl, hb.1, hb.2⟩
        case measure => simp [intOf]; omega
      · go_wp2
        go_ret
        refine ⟨w.heap.size, Nat.le_refl _, rfl, (Below.refl _ _).alloc (Nat.le_refl _) _, A, n, c, zs, 0, h, ?_, ?_, Nat.zero_le _, ?_, hz, ?_, ?_⟩
        · exact alloc_new _ _
        · simp [maxLen]; omega
        · exact hx.keep fun p hp => ((Below.refl w.heap.size w).alloc (Nat.le_refl _) _).cell hp
        · omega
        · omega
    · go_wp2
      go_ret
      refine ⟨w.heap.size, Nat.le_refl _, rfl, (Below.refl _ _).alloc (Nat.le_refl _) _, A, n, c, zs, 0, h, ?_, ?_, Nat.zero_le _, ?_, hz, ?_, ?_⟩
      · exact alloc_new _ _
      · simp [maxLen]; omega
      · exact hx.keep fun p hp => ((Below.refl w.heap.size w).alloc (Nat.le_refl _) _).cell hp
      · omega
      · omega

theorem emod_in {x m : Int} (hm : 1 ≤ m) : 0 ≤ x % m ∧ x % m < m := ⟨Int.emod_nonneg _ (by omega), Int.emod_lt_of_pos _ (by omega)⟩

set_option maxHeartbeats 400000 in
theorem l1Below_any (w : World) (g : Nat) (hc : Cur w g) (m : Int) (hm : 1 ≤ m) (hm2 : m ≤ 9223372036854775807) :
    Calls Try.prog 35 #[.pointer (some ⟨g, 0, none⟩), .int .i64 m] w fun e w' => ∃ x : Int, 0 ≤ x ∧ x < m ∧ e = .returned (.int .i64 x) ∧ Draws g w w' := by
  have hd := Draws.refl hc
  by_cases hs : m ≤ 256
  · go_enter Try.func35, Try.ntmps35
    go_wp2_with (go_at_call 63; refine (l1Byte_any _ g hd.2).mono ?_; rintro e w1 ⟨x, hx1, hx2, rfl, d⟩; replace hd := hd.trans d; have hq := emod_in (x := x) hm; clear d)
    go_ret
    exact ⟨_, hq.1, hq.2, rfl, hd⟩
  · go_enter Try.func35, Try.ntmps35
    go_wp2_with (fail)
    go_at_call 63
    refine (l1Byte_any _ g hd.2).mono ?_
    rintro e w1 ⟨x, hx1, hx2, rfl, d⟩
    replace hd := hd.trans d
    clear d
    go_wp2_with (fail)
    go_at_call 63
    refine (l1Byte_any _ g hd.2).mono ?_
    rintro e w2 ⟨y, hy1, hy2, rfl, d⟩
    replace hd := hd.trans d
    clear d
    go_wp2_with (fail)
    go_at_call 63
    refine (l1Byte_any _ g hd.2).mono ?_
    rintro e w3 ⟨z, hz1, hz2, rfl, d⟩
    replace hd := hd.trans d
    clear d
    have hq := emod_in (x := x * 65536 + y * 256 + z) hm
    go_wp2
    go_ret
    exact ⟨_, hq.1, hq.2, rfl, hd⟩

set_option maxHeartbeats 400000 in
theorem l1Once_any (w : World) (g : Nat) (hc : Cur w g) (m : Int) (hm : 1 ≤ m) (hm2 : m ≤ 9223372036854775807) :
    Calls Try.prog 66 #[.pointer (some ⟨g, 0, none⟩), .int .i64 m] w fun e w' => ∃ b : Bool, e = .returned (.bool b) ∧ Draws g w w' := by
  have hd := Draws.refl hc
  go_enter Try.func66, Try.ntmps66
  go_wp2_with (go_at_call 35; refine (l1Below_any _ g hd.2 m hm hm2).mono ?_; rintro e w1 ⟨x, hx1, hx2, rfl, d⟩; replace hd := hd.trans d; clear d)
  all_goals go_ret
  all_goals exact ⟨_, rfl, hd⟩

set_option maxHeartbeats 400000 in
theorem l1Int_any (w : World) (g : Nat) (hc : Cur w g) (b n : Nat) (zs : List Int) (hb : b ≠ g) (hn : 1 ≤ n) (hn2 : n ≤ 256) (hl : zs.length = n) (hcell : ∀ j v, (zs.map (Value.int .i64))[j]? = some v → w.cell? ⟨b, j, none⟩ = some v) (hlt : b < w.heap.size) :
    Calls Try.prog 62 #[.pointer (some ⟨g, 0, none⟩), .slice (some ⟨b, 0, none⟩) n n] w fun e w' => ∃ z ∈ zs, e = .returned (.int .i64 z) ∧ Draws g w w' := by
  have hd := Draws.refl hc
  go_enter Try.func62, Try.ntmps62
  go_wp2_with (fail)
  go_at_call 35
  refine (l1Below_any _ g hd.2 n (by omega) (by omega)).mono ?_
  rintro e w1 ⟨x, hx1, hx2, rfl, d⟩
  obtain ⟨k, rfl⟩ := Int.eq_ofNat_of_zero_le hx1
  have hk : k < n := by omega
  have hkz : k < zs.length := by omega
  have hcx : w1.cell? ⟨b, k, none⟩ = some (.int .i64 zs[k]) := by
    rw [World.cell?_of_block (w := w) (d.1.block b hlt hb)]
    exact hcell k _ (by rw [List.getElem?_map, List.getElem?_eq_getElem hkz]; rfl)
  have hmem : zs[k] ∈ zs := List.getElem_mem _
  generalize zs[k] = z at *
  go_wp2
  go_ret
  exact ⟨z, hmem, rfl, hd.trans d⟩

set_option maxHeartbeats 400000 in
theorem l1Str_any (w : World) (g : Nat) (hc : Cur w g) (b n : Nat) (zs : List ByteArray) (hb : b ≠ g) (hn : 1 ≤ n) (hn2 : n ≤ 256) (hl : zs.length = n) (hcell : ∀ j v, (zs.map Value.string)[j]? = some v → w.cell? ⟨b, j, none⟩ = some v) (hlt : b < w.heap.size) :
    Calls Try.prog 36 #[.pointer (some ⟨g, 0, none⟩), .slice (some ⟨b, 0, none⟩) n n] w fun e w' => ∃ z ∈ zs, e = .returned (.string z) ∧ Draws g w w' := by
  have hd := Draws.refl hc
  go_enter Try.func36, Try.ntmps36
  go_wp2_with (fail)
  go_at_call 35
  refine (l1Below_any _ g hd.2 n (by omega) (by omega)).mono ?_
  rintro e w1 ⟨x, hx1, hx2, rfl, d⟩
  obtain ⟨k, rfl⟩ := Int.eq_ofNat_of_zero_le hx1
  have hk : k < n := by omega
  have hkz : k < zs.length := by omega
  have hcx : w1.cell? ⟨b, k, none⟩ = some (.string zs[k]) := by
    rw [World.cell?_of_block (w := w) (d.1.block b hlt hb)]
    exact hcell k _ (by rw [List.getElem?_map, List.getElem?_eq_getElem hkz]; rfl)
  have hmem : zs[k] ∈ zs := List.getElem_mem _
  generalize zs[k] = z at *
  go_wp2
  go_ret
  exact ⟨z, hmem, rfl, hd.trans d⟩

end Go.Proofs.Ytleopmeaaabejaa

namespace Go.Proofs.Ytleopmeaaabejaa
set_option linter.unusedVariables false
set_option linter.unusedSimpArgs false
set_option maxRecDepth 100000
open Go.ChangeShapes Go.WideShapes Go.ChangeAt Go.RowKit Go.Deep

theorem alloc_lt (w : World) (o : Obj) : w.heap.size < (w.alloc o).heap.size := by
  show _ < (w.heap.push o).size
  rw [Array.size_push]
  omega
theorem mul_in {x y : Int} {a b : Nat} (h1 : 0 ≤ x) (h2 : x < a) (h3 : 0 ≤ y) (h4 : y < b) : 0 ≤ x * y ∧ x * y ≤ (a : Int) * b := ⟨Int.mul_nonneg h1 h3, Int.mul_le_mul (by omega) (by omega) h3 (by omega)⟩






end Go.Proofs.Ytleopmeaaabejaa

namespace Go.Proofs.Ytleopmeaaabejaa
set_option linter.unusedVariables false
set_option linter.unusedSimpArgs false
set_option maxRecDepth 100000
open Go.ChangeShapes Go.WideShapes Go.ChangeAt Go.RowKit Go.Deep

theorem big_no {A : Option Addr} {n c : Nat} (w : World) (hn : n ≤ 1048576) : Calls Try.prog 6 #[.slice A n c] w fun e w' => e = .returned (.bool false) ∧ w = w' := by
  go_enter Try.func6, Try.ntmps6
  go_wp2
  go_ret
  exact ⟨ret_bool (by simp; omega), rfl⟩
theorem big_yes {A : Option Addr} {n c : Nat} (w : World) (hn : ¬ n ≤ 1048576) (hm : n ≤ maxLen) : Calls Try.prog 6 #[.slice A n c] w fun e w' => e = .returned (.bool true) ∧ w = w' := by
  simp only [maxLen] at hm
  go_enter Try.func6, Try.ntmps6
  go_wp2
  go_ret
  exact ⟨ret_bool (by simp; omega), rfl⟩
theorem own_got {w w' w'' : World} {lo e size n : Nat} {v : Value} {xs : List Value} (h : w'.ownsRow lo e size v n xs) (hl : w.heap.size ≤ lo) : Own w' w.heap.size w'.heap.size e size v n xs := (Own.of_row h).wide hl (Nat.le_refl _)
theorem Own.rd {w : World} {lo e size n c : Nat} {A : Option Addr} {xs : List Value} (h : Own w lo w.heap.size e size (.slice A n c) n xs) : Reads w w.heap.size size A n xs := h.reads (Nat.le_refl _)
end Go.Proofs.Ytleopmeaaabejaa

namespace Go.Proofs.Ytleopmeaaabejaa
set_option linter.unusedVariables false
set_option linter.unusedSimpArgs false
set_option maxRecDepth 100000
open Go.ChangeShapes Go.WideShapes Go.ChangeAt Go.RowKit Go.Deep

/-- no angle bracket -/
def plainB (s : ByteArray) : Bool := s.data.toList.all fun b => b != 60 && b != 62
theorem plainB_app {a b : ByteArray} (h1 : plainB a = true) (h2 : plainB b = true) : plainB (a ++ b) = true := by
  unfold plainB at *
  rw [ByteArray.data_append, Array.toList_append, List.all_append, h1, h2]
  rfl
set_option maxHeartbeats 2000000 in
theorem l5Tag_any (w : World) (g : Nat) (hc : Cur w g) : Calls Try.prog 67 #[.pointer (some ⟨g, 0, none⟩)] w fun e w' => ∃ s : ByteArray, plainB s = true ∧ s.size ≤ 200 ∧ e = .returned (.string s) ∧ Draws g w w' := by
  have hd := Draws.refl hc
  go_enter Try.func67, Try.ntmps67
  go_wp2_with (fail)
  go_at_call 35
  refine (l1Below_any _ g hd.2 8 (by omega) (by omega)).mono ?_
  rintro e w1 ⟨x, hx1, hx2, rfl, d⟩
  replace hd := hd.trans d
  clear d
  have hx : x = 0 ∨ x = 1 ∨ x = 2 ∨ x = 3 ∨ x = 4 ∨ x = 5 ∨ (5 < x) := by omega
  rcases hx with rfl | rfl | rfl | rfl | rfl | rfl | hx
  · go_wp2_with (fail)
    go_at_call 36
    refine (l1Str_any _ g (hd.alloc _).2 _ 4 [⟨#[112]⟩, ⟨#[98]⟩, ⟨#[115, 99, 114, 105, 112, 116]⟩, ⟨#[112, 97, 103, 101]⟩] (by have := hd.lt; omega) (by omega) (by omega) rfl (fun j v h => alloc_vals _ _ _ j v h) (alloc_lt _ _)).mono ?_
    rintro e w3 ⟨z1, hz1, rfl, d1⟩
    replace hd := (hd.alloc _).trans d1
    have hp1 : plainB z1 = true ∧ z1.size ≤ 60 := by
      simp only [List.mem_cons, List.not_mem_nil, or_false] at hz1
      rcases hz1 with rfl | rfl | rfl | rfl <;> exact ⟨by decide, by decide⟩
    obtain ⟨hp1a, hp1b⟩ := hp1
    clear d1 hz1
    go_wp2
    go_ret
    have hq : (⟨#[47]⟩ : ByteArray).size ≤ 20 := by decide
    exact ⟨(⟨#[47]⟩ : ByteArray) ++ z1, plainB_app (by decide) hp1a, by rw [ByteArray.size_append]; omega, rfl, hd⟩
  · go_wp2_with (fail)
    go_at_call 36
    refine (l1Str_any _ g (hd.alloc _).2 _ 4 [⟨#[97, 112, 112]⟩, ⟨#[99, 100, 110, 47, 108, 105, 98]⟩, ⟨#[108, 105, 98]⟩, ⟨#[101, 118, 105, 108, 47, 97, 112, 112]⟩] (by have := hd.lt; omega) (by omega) (by omega) rfl (fun j v h => alloc_vals _ _ _ j v h) (alloc_lt _ _)).mono ?_
    rintro e w3 ⟨z1, hz1, rfl, d1⟩
    replace hd := (hd.alloc _).trans d1
    have hp1 : plainB z1 = true ∧ z1.size ≤ 60 := by
      simp only [List.mem_cons, List.not_mem_nil, or_false] at hz1
      rcases hz1 with rfl | rfl | rfl | rfl <;> exact ⟨by decide, by decide⟩
    obtain ⟨hp1a, hp1b⟩ := hp1
    clear d1 hz1
    go_wp2
    go_ret
    have hq : (⟨#[115, 99, 114, 105, 112, 116, 32, 115, 114, 99, 61]⟩ : ByteArray).size ≤ 20 := by decide
    exact ⟨(⟨#[115, 99, 114, 105, 112, 116, 32, 115, 114, 99, 61]⟩ : ByteArray) ++ z1, plainB_app (by decide) hp1a, by rw [ByteArray.size_append]; omega, rfl, hd⟩
  · go_wp2_with (fail)
    go_at_call 36
    refine (l1Str_any _ g (hd.alloc _).2 _ 2 [⟨#[97, 112, 112]⟩, ⟨#[117, 116, 105, 108]⟩] (by have := hd.lt; omega) (by omega) (by omega) rfl (fun j v h => alloc_vals _ _ _ j v h) (alloc_lt _ _)).mono ?_
    rintro e w3 ⟨z1, hz1, rfl, d1⟩
    replace hd := (hd.alloc _).trans d1
    have hp1 : plainB z1 = true ∧ z1.size ≤ 60 := by
      simp only [List.mem_cons, List.not_mem_nil, or_false] at hz1
      rcases hz1 with rfl | rfl <;> exact ⟨by decide, by decide⟩
    obtain ⟨hp1a, hp1b⟩ := hp1
    clear d1 hz1
    go_wp2_with (fail)
    go_at_call 36
    refine (l1Str_any _ g (hd.alloc _).2 _ 2 [⟨#[100, 101, 102, 101, 114]⟩, ⟨#[109, 111, 100, 117, 108, 101]⟩] (by have := hd.lt; omega) (by omega) (by omega) rfl (fun j v h => alloc_vals _ _ _ j v h) (alloc_lt _ _)).mono ?_
    rintro e w4 ⟨z2, hz2, rfl, d2⟩
    replace hd := (hd.alloc _).trans d2
    have hp2 : plainB z2 = true ∧ z2.size ≤ 60 := by
      simp only [List.mem_cons, List.not_mem_nil, or_false] at hz2
      rcases hz2 with rfl | rfl <;> exact ⟨by decide, by decide⟩
    obtain ⟨hp2a, hp2b⟩ := hp2
    clear d2 hz2
    go_wp2
    go_ret
    have hq : (⟨#[115, 99, 114, 105, 112, 116, 32, 115, 114, 99, 61]⟩ : ByteArray).size ≤ 20 := by decide
    have hr : (⟨#[32, 107, 105, 110, 100, 61]⟩ : ByteArray).size ≤ 20 := by decide
    exact ⟨(⟨#[115, 99, 114, 105, 112, 116, 32, 115, 114, 99, 61]⟩ : ByteArray) ++ z1 ++ (⟨#[32, 107, 105, 110, 100, 61]⟩ : ByteArray) ++ z2, plainB_app (plainB_app (plainB_app (by decide) hp1a) (by decide)) hp2a, by rw [ByteArray.size_append, ByteArray.size_append, ByteArray.size_append]; omega, rfl, hd⟩
  · go_wp2_with (fail)
    go_at_call 36
    refine (l1Str_any _ g (hd.alloc _).2 _ 2 [⟨#[108, 111, 103, 111]⟩, ⟨#[99, 100, 110, 47, 108, 111, 103, 111]⟩] (by have := hd.lt; omega) (by omega) (by omega) rfl (fun j v h => alloc_vals _ _ _ j v h) (alloc_lt _ _)).mono ?_
    rintro e w3 ⟨z1, hz1, rfl, d1⟩
    replace hd := (hd.alloc _).trans d1
    have hp1 : plainB z1 = true ∧ z1.size ≤ 60 := by
      simp only [List.mem_cons, List.not_mem_nil, or_false] at hz1
      rcases hz1 with rfl | rfl <;> exact ⟨by decide, by decide⟩
    obtain ⟨hp1a, hp1b⟩ := hp1
    clear d1 hz1
    go_wp2
    go_ret
    have hq : (⟨#[105, 109, 103, 32, 115, 114, 99, 61]⟩ : ByteArray).size ≤ 20 := by decide
    exact ⟨(⟨#[105, 109, 103, 32, 115, 114, 99, 61]⟩ : ByteArray) ++ z1, plainB_app (by decide) hp1a, by rw [ByteArray.size_append]; omega, rfl, hd⟩
  · go_wp2_with (fail)
    go_at_call 36
    refine (l1Str_any _ g (hd.alloc _).2 _ 2 [⟨#[115, 116, 121, 108, 101]⟩, ⟨#[99, 100, 110, 47, 115, 116, 121, 108, 101]⟩] (by have := hd.lt; omega) (by omega) (by omega) rfl (fun j v h => alloc_vals _ _ _ j v h) (alloc_lt _ _)).mono ?_
    rintro e w3 ⟨z1, hz1, rfl, d1⟩
    replace hd := (hd.alloc _).trans d1
    have hp1 : plainB z1 = true ∧ z1.size ≤ 60 := by
      simp only [List.mem_cons, List.not_mem_nil, or_false] at hz1
      rcases hz1 with rfl | rfl <;> exact ⟨by decide, by decide⟩
    obtain ⟨hp1a, hp1b⟩ := hp1
    clear d1 hz1
    go_wp2
    go_ret
    have hq : (⟨#[108, 105, 110, 107, 32, 104, 114, 101, 102, 61]⟩ : ByteArray).size ≤ 20 := by decide
    exact ⟨(⟨#[108, 105, 110, 107, 32, 104, 114, 101, 102, 61]⟩ : ByteArray) ++ z1, plainB_app (by decide) hp1a, by rw [ByteArray.size_append]; omega, rfl, hd⟩
  · go_wp2_with (fail)
    go_at_call 36
    refine (l1Str_any _ g (hd.alloc _).2 _ 10 [⟨#[112, 32, 97, 61, 98]⟩, ⟨#[]⟩, ⟨#[80]⟩, ⟨#[112, 32, 97]⟩, ⟨#[112, 32, 97, 61]⟩, ⟨#[112, 32, 32, 97, 61, 98]⟩, ⟨#[112, 32, 97, 61, 98, 32, 97, 61, 99]⟩, ⟨#[112, 32, 97, 61, 98, 32, 98, 61, 99, 32, 99, 61, 100, 32, 100, 61, 101, 32, 101, 61, 102]⟩, ⟨#[47]⟩, ⟨#[112, 32, 97, 61, 98, 61, 99]⟩] (by have := hd.lt; omega) (by omega) (by omega) rfl (fun j v h => alloc_vals _ _ _ j v h) (alloc_lt _ _)).mono ?_
    rintro e w3 ⟨z1, hz1, rfl, d1⟩
    replace hd := (hd.alloc _).trans d1
    have hp1 : plainB z1 = true ∧ z1.size ≤ 60 := by
      simp only [List.mem_cons, List.not_mem_nil, or_false] at hz1
      rcases hz1 with rfl | rfl | rfl | rfl | rfl | rfl | rfl | rfl | rfl | rfl <;> exact ⟨by decide, by decide⟩
    obtain ⟨hp1a, hp1b⟩ := hp1
    clear d1 hz1
    go_wp2
    go_ret
    exact ⟨z1, hp1a, by omega, rfl, hd⟩
  · go_wp2_with (fail)
    go_at_call 36
    refine (l1Str_any _ g (hd.alloc _).2 _ 4 [⟨#[112]⟩, ⟨#[98]⟩, ⟨#[112, 97, 103, 101]⟩, ⟨#[115, 99, 114, 105, 112, 116]⟩] (by have := hd.lt; omega) (by omega) (by omega) rfl (fun j v h => alloc_vals _ _ _ j v h) (alloc_lt _ _)).mono ?_
    rintro e w3 ⟨z1, hz1, rfl, d1⟩
    replace hd := (hd.alloc _).trans d1
    have hp1 : plainB z1 = true ∧ z1.size ≤ 60 := by
      simp only [List.mem_cons, List.not_mem_nil, or_false] at hz1
      rcases hz1 with rfl | rfl | rfl | rfl <;> exact ⟨by decide, by decide⟩
    obtain ⟨hp1a, hp1b⟩ := hp1
    clear d1 hz1
    go_wp2
    go_ret
    exact ⟨z1, hp1a, by omega, rfl, hd⟩
end Go.Proofs.Ytleopmeaaabejaa

namespace Go.Proofs.Ytleopmeaaabejaa
set_option linter.unusedVariables false
set_option linter.unusedSimpArgs false
set_option maxRecDepth 100000
open Go.ChangeShapes Go.WideShapes Go.ChangeAt Go.RowKit Go.Deep

set_option maxHeartbeats 2000000 in
theorem l5Page_any (w : World) (g : Nat) (hc : Cur w g) (m : Nat) (hm : m ≤ 100) : Calls Try.prog 38 #[.pointer (some ⟨g, 0, none⟩), .int .i64 m] w fun e w' => ∃ s : ByteArray, s.size ≤ 40000 ∧ e = .returned (.string s) ∧ Draws g w w' := by
  have hd := Draws.refl hc
  go_enter Try.func38, Try.ntmps38
  go_wp2_with (fail)
  go_at_call 35
  refine (l1Below_any _ g hd.2 ((m : Int) + 1) (by omega) (by omega)).mono ?_
  rintro e w1 ⟨x, hx1, hx2, rfl, d⟩
  replace hd := hd.trans d
  clear d
  obtain ⟨n, rfl⟩ := Int.eq_ofNat_of_zero_le hx1
  go_wp2_with (fail)
  go_loopw [5, 6] (fun v i wr => ∃ (k : Nat) (s : ByteArray), s.size + 300 * k ≤ 300 * n ∧ i = .int .i64 k ∧ v = .string s ∧ Draws g w wr) (fun _ i _ => (intOf i).toNat)
  case atStart => exact ⟨n, ⟨#[]⟩, by simp [ByteArray.size], rfl, rfl, hd⟩
  case round =>
    clear hd
    obtain ⟨k, s, hk, rfl, rfl, hd⟩ := hrel
    have hs : s.size ≤ 30000 := by omega
    by_cases hlt : 0 < k
    · have hltI : (0 : Int) < (k : Int) := by omega
      go_wp2_with (fail)
      go_at_call 66
      refine (l1Once_any _ g hd.2 3 (by omega) (by omega)).mono ?_
      rintro e w2 ⟨o, rfl, d⟩
      replace hd := hd.trans d
      clear d
      cases o
      · go_wp2_with (fail)
        go_at_call 67
        refine (l5Tag_any _ g hd.2).mono ?_
        rintro e w3 ⟨z, hz1, hz2, rfl, d⟩
        replace hd := hd.trans d
        clear d hz1
        have h1 : (⟨#[60]⟩ : ByteArray).size = 1 := rfl
        have h2 : (⟨#[62]⟩ : ByteArray).size = 1 := rfl
        have hsz : (s ++ ⟨#[60]⟩ ++ z ++ ⟨#[62]⟩).size = s.size + z.size + 2 := by
          rw [ByteArray.size_append, ByteArray.size_append, ByteArray.size_append, h1, h2]
          omega
        clear h1 h2
        go_wp2
        go_roundw
        case rel => exact ⟨k - 1, _, by rw [hsz]; omega, by congr 1; omega, rfl, hd⟩
        case measure => simp [intOf]; omega
      · go_wp2_with (fail)
        go_at_call 36
        refine (l1Str_any _ g (hd.alloc _).2 _ 5 [⟨#[104, 105]⟩, ⟨#[97, 32, 98]⟩, ⟨#[99, 111, 117, 110, 116]⟩, ⟨#[120, 62, 121]⟩, ⟨#[]⟩] (by have := hd.lt; omega) (by omega) (by omega) rfl (fun j v h => alloc_vals _ _ _ j v h) (alloc_lt _ _)).mono ?_
        rintro e w3 ⟨z, hz, rfl, d⟩
        replace hd := (hd.alloc _).trans d
        have hz2 : z.size ≤ 60 := by
          simp only [List.mem_cons, List.not_mem_nil, or_false] at hz
          rcases hz with rfl | rfl | rfl | rfl | rfl <;> decide
        clear d hz
        go_wp2
        go_roundw
        case rel => exact ⟨k - 1, s ++ z, by rw [ByteArray.size_append]; omega, by congr 1; omega, rfl, hd⟩
        case measure => simp [intOf]; omega
    · obtain rfl : k = 0 := by omega
      go_wp2_with (fail)
      go_at_call 66
      refine (l1Once_any _ g hd.2 6 (by omega) (by omega)).mono ?_
      rintro e w2 ⟨o, rfl, d⟩
      replace hd := hd.trans d
      clear d
      cases o
      · go_wp2
        go_ret
        exact ⟨s, by omega, rfl, hd⟩
      · go_wp2_with (fail)
        go_at_call 36
        refine (l1Str_any _ g (hd.alloc _).2 _ 3 [⟨#[60, 112]⟩, ⟨#[60]⟩, ⟨#[101, 110, 100]⟩] (by have := hd.lt; omega) (by omega) (by omega) rfl (fun j v h => alloc_vals _ _ _ j v h) (alloc_lt _ _)).mono ?_
        rintro e w3 ⟨z, hz, rfl, d⟩
        replace hd := (hd.alloc _).trans d
        have hz2 : z.size ≤ 60 := by
          simp only [List.mem_cons, List.not_mem_nil, or_false] at hz
          rcases hz with rfl | rfl | rfl <;> decide
        clear d hz
        go_wp2
        go_ret
        exact ⟨s ++ z, by rw [ByteArray.size_append]; omega, rfl, hd⟩
end Go.Proofs.Ytleopmeaaabejaa

namespace Go.Proofs.Ytleopmeaaabejaa
set_option linter.unusedVariables false
set_option linter.unusedSimpArgs false
open Go.RowKit

theorem feedN_enough : ∀ (f g : Nat) (x : ByteArray), x.size ≤ f → x.size ≤ g → feedN f x = feedN g x := by
  intro f
  induction f with
  | zero =>
    intro g x hf hg
    have hs : stepF x = none := by
      cases h : stepF x with
      | none => rfl
      | some r => have := stepF_less (y := r.1) (l := r.2) h; omega
    rw [feedN_stop hs, feedN_stop hs]
  | succ f ih =>
    intro g x hf hg
    cases h : stepF x with
    | none => rw [feedN_stop h, feedN_stop h]
    | some r =>
      obtain ⟨y, l⟩ := r
      have hl := stepF_less h
      obtain ⟨g', rfl⟩ : ∃ g', g = g' + 1 := ⟨g - 1, by omega⟩
      rw [feedN_step h, feedN_step h, ih g' y (by omega) (by omega)]
theorem feed_step {x y : ByteArray} {l : List Tok} (h : stepF x = some (y, l)) : feed x = (l ++ (feed y).1, (feed y).2) := by
  have hl := stepF_less h
  unfold feed
  obtain ⟨k, hk⟩ : ∃ k, x.size = k + 1 := ⟨x.size - 1, by omega⟩
  rw [hk, feedN_step h, feedN_enough k y.size y (by omega) (Nat.le_refl _)]
theorem feed_stop {x : ByteArray} (h : stepF x = none) : feed x = ([], x) := feedN_stop h _
theorem app_at {x y : ByteArray} {i : Nat} (h : i < x.size) : ∃ h' : i < (x ++ y).size, (x ++ y)[i] = x[i] := by
  have h' : i < (x ++ y).size := by rw [ByteArray.size_append]; omega
  exact ⟨h', ByteArray.getElem_append_left h⟩
theorem app_ix {x y : ByteArray} {c : UInt8} {i : Nat} (h : ixB x c = i) : ixB (x ++ y) c = i := by
  rcases ixB_cases x c with ⟨h1, _⟩ | ⟨j, hj, h1, h2, h3⟩
  · rw [h1] at h; omega
  · have e : j = i := by rw [h1] at h; omega
    subst e
    obtain ⟨hl, he⟩ := app_at (y := y) hj
    refine ixB_at hl (by rw [he]; exact h2) fun k hk => ?_
    obtain ⟨hl2, he2⟩ := app_at (x := x) (y := y) (i := k) (by omega)
    rw [he2]
    exact h3 k hk
theorem app_tail {x y : ByteArray} {k : Nat} (h : k ≤ x.size) : (x ++ y).extract k (x ++ y).size = x.extract k x.size ++ y := by
  apply ByteArray.ext
  rw [ByteArray.data_extract, ByteArray.data_append, ByteArray.data_append, ByteArray.data_extract, ByteArray.size_append]
  have hx : x.size = x.data.size := rfl
  have hy : y.size = y.data.size := rfl
  apply Array.ext_getElem?
  intro i
  simp only [Array.getElem?_extract, Array.getElem?_append, Array.size_extract, Array.size_append]
  grind
theorem app_front {x y : ByteArray} {a k : Nat} (h : k ≤ x.size) : (x ++ y).extract a k = x.extract a k := by
  apply ByteArray.ext
  rw [ByteArray.data_extract, ByteArray.data_append, ByteArray.data_extract]
  have hx : x.size = x.data.size := rfl
  apply Array.ext_getElem?
  intro i
  simp only [Array.getElem?_extract, Array.getElem?_append, Array.size_append]
  grind
theorem app_head {x y : ByteArray} (h : 0 < x.size) : headLt (x ++ y) = headLt x := by
  obtain ⟨h1, h2⟩ := app_at (y := y) h
  rw [headLt_at h, headLt_at h1, h2]
theorem stepF_app {x y z : ByteArray} {l : List Tok} (h : stepF x = some (z, l)) : stepF (x ++ y) = some (z ++ y, l) := by
  have hl := stepF_less h
  have hh := app_head (y := y) (show 0 < x.size by omega)
  unfold stepF at h ⊢
  rw [hh]
  cases hb : headLt x
  · rw [hb] at h
    simp only [Bool.false_eq_true, if_false] at h ⊢
    rcases ix_range x 60 with hx | ⟨i, hx, hi, _⟩
    · rw [hx] at h; simp at h
    · rw [hx] at h
      rw [app_ix hx]
      rw [if_pos (by omega)] at h ⊢
      simp only [Int.toNat_natCast, Option.some.injEq, Prod.mk.injEq] at h ⊢
      obtain ⟨rfl, rfl⟩ := h
      exact ⟨app_tail (by omega), by rw [app_front (by omega)]⟩
  · rw [hb] at h
    simp only [if_true] at h ⊢
    rcases ix_range x 62 with hx | ⟨i, hx, hi, _⟩
    · rw [hx] at h; simp at h
    · rw [hx] at h
      rw [app_ix hx]
      rw [if_pos (by omega)] at h ⊢
      simp only [Int.toNat_natCast, Option.some.injEq, Prod.mk.injEq] at h ⊢
      obtain ⟨rfl, rfl⟩ := h
      exact ⟨app_tail (by omega), by rw [app_front (by omega)]⟩
/-- piece by piece -/
theorem feed_app : ∀ (n : Nat) (x y : ByteArray), x.size ≤ n → feed (x ++ y) = ((feed x).1 ++ (feed ((feed x).2 ++ y)).1, (feed ((feed x).2 ++ y)).2) := by
  intro n
  induction n with
  | zero =>
    intro x y hn
    have hs : stepF x = none := by
      cases h : stepF x with
      | none => rfl
      | some r => have := stepF_less (y := r.1) (l := r.2) h; omega
    rw [feed_stop hs]
    simp
  | succ n ih =>
    intro x y hn
    cases h : stepF x with
    | none => rw [feed_stop h]; simp
    | some r =>
      obtain ⟨z, l⟩ := r
      have hl := stepF_less h
      rw [feed_step h, feed_step (stepF_app h), ih z y (by omega)]
      simp
end Go.Proofs.Ytleopmeaaabejaa

namespace Go.Proofs.Ytleopmeaaabejaa
set_option linter.unusedVariables false
set_option linter.unusedSimpArgs false
set_option maxRecDepth 100000
open Go.ChangeShapes Go.WideShapes Go.ChangeAt Go.RowKit Go.Deep

def attrB (a : S2) : ByteArray := ⟨#[32]⟩ ++ a.1 ++ ⟨#[61]⟩ ++ a.2
def catA (s : ByteArray) (l : List S2) : ByteArray := l.foldl (fun s a => s ++ attrB a) s
theorem catA_snoc (s : ByteArray) (l : List S2) (a : S2) : catA s (l ++ [a]) = catA s l ++ attrB a := by simp [catA]
theorem catA_take {s : ByteArray} {l : List S2} {k : Nat} (h : k < l.length) : catA s (l.take (k + 1)) = catA s (l.take k) ++ attrB l[k] := by
  rw [List.take_succ_eq_append_getElem h, catA_snoc]
theorem attrB_size (a : S2) : (attrB a).size = a.1.size + a.2.size + 2 := by
  simp only [attrB, ByteArray.size_append]
  show 1 + a.1.size + 1 + a.2.size = _
  omega
theorem catA_size (s : ByteArray) (l : List S2) : ((catA s l).size : Int) = s.size + 2 * l.length + s2sz l := by
  induction l generalizing s with
  | nil => simp [catA, s2sz]
  | cons a l ih =>
    show ((catA (s ++ attrB a) l).size : Int) = _
    rw [ih, ByteArray.size_append, attrB_size, s2sz_cons, List.length_cons]
    push_cast
    omega
theorem s2sz_le {l : List S2} {k : Nat} (h : k ≤ l.length) : s2sz (l.take k) ≤ s2sz l := by
  have : s2sz l = s2sz (l.take k) + s2sz (l.drop k) := by rw [s2sz, s2sz, s2sz, ← List.sum_append, ← List.map_append, List.take_append_drop]
  have := s2sz_nonneg (l.drop k)
  omega
def fmtT (t : Tok) : ByteArray := if t.kind = 1 then catA (⟨#[60]⟩ ++ t.name) t.attrs ++ ⟨#[62]⟩ else if t.kind = 2 then ⟨#[60, 47]⟩ ++ t.name ++ ⟨#[62]⟩ else if t.kind = 3 then t.text else ⟨#[]⟩
theorem ret_st {x y : ByteArray} (h : x = y) : Ending.returned (.string x) = .returned (.string y) := by rw [h]
theorem catA_impl (s : ByteArray) (a : S2) : s ++ (⟨#[32]⟩ ++ a.1 ++ ⟨#[61]⟩ ++ a.2) = s ++ attrB a := rfl
theorem catA_spec (s : ByteArray) (a : S2) : s ++ ⟨#[32]⟩ ++ a.1 ++ ⟨#[61]⟩ ++ a.2 = s ++ attrB a := by simp only [attrB, ByteArray.append_assoc]
theorem val_st {x y : ByteArray} (h : x = y) : Value.string x = .string y := by rw [h]

end Go.Proofs.Ytleopmeaaabejaa
