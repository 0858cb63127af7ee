/-
  Contracts of the functions that draw, second part: a new cursor, numbers below a bound, an element of a list, bytes.
-/
import Derived.Test.YtmfaihelphfbgaaDoorDrw
namespace Go.Proofs.YtmfaihelphfbgaaDoor
set_option linter.unusedVariables false
set_option linter.unusedSimpArgs false
set_option maxRecDepth 100000
open Go.ChangeShapes Go.WideShapes Go.ChangeAt Go.RowKit Go.Deep

section
variable {g : Nat} {w w1 w2 : World}
theorem Draws.refl (h : Cur w g) : Draws g w w := ⟨Keeps.refl _ _, h⟩
theorem Draws.lt (h : Draws g w w1) : g < w1.heap.size := h.2.lt
theorem Draws.size (h : Draws g w w1) : w.heap.size ≤ w1.heap.size := h.1.size
theorem Draws.trans (h : Draws g w w1) (k : Draws g w1 w2) : Draws g w w2 := ⟨h.1.trans k.1, k.2⟩
theorem Draws.next {B : Nat} (h : Draws g w w1) (hb : Below B w1 w2) (hB : w.heap.size ≤ B) (hg : g < w.heap.size) : Draws g w w2 :=
  ⟨⟨hb.os.trans h.1.os, hb.tape.trans h.1.tape, hb.output.trans h.1.output, Nat.le_trans h.1.size hb.size, fun i hi hn => (hb.block i (by omega)).trans (h.1.block i hi hn)⟩, h.2.below hb (by omega)⟩
theorem Draws.alloc (h : Draws g w w1) (o : Obj) : Draws g w (w1.alloc o) :=
  have hb : Below w1.heap.size w1 (w1.alloc o) := (Below.refl _ _).alloc (Nat.le_refl _) _
  ⟨h.1.trans (Keeps.of_below hb), h.2.below hb h.lt⟩
theorem Draws.below {B : Nat} (h : Draws g w w1) (hB : B ≤ w.heap.size) (hg : B ≤ g) : Below B w w1 := h.1.below hB fun k hk => by omega
theorem own_draws {lo n size : Nat} {e : TypeId} {v : Value} {xs : List Value} (h : w1.ownsRow lo e size v n xs) (hd : Draws g w1 w2) (hg : g < lo) : w2.ownsRow lo e size v n xs :=
  ((Own.of_row h).keep hd.1 fun k hk => .inl (by omega)).1
theorem alloc_vals (w : World) (vs : List Value) (t : TypeId) (j : Nat) (v : Value) (h : vs[j]? = some v) : (w.alloc (.cells vs.toArray t)).cell? ⟨w.heap.size, j, none⟩ = some v := by
  rw [World.cell?_alloc_at _ _ _ _ rfl]
  simpa using h
theorem alloc_new (w : World) (o : Obj) : (w.alloc o).heap[w.heap.size]? = some o := by
  show (w.heap.push o)[w.heap.size]? = _
  exact Array.getElem?_push_size
end

set_option maxHeartbeats 400000 in
theorem l1New_any {A : Option Addr} {n c : Nat} {zs : List Int} (w : World) (hx : Reads w w.heap.size 1 A n (zs.map (Value.int .u8))) (hn : n ≤ 1048576) (hz : ∀ z ∈ zs, 0 ≤ z ∧ z ≤ 255) :
    Calls Tryd.prog 27 #[.slice A n c] w fun e w' => ∃ g, w.heap.size ≤ g ∧ e = .returned (.pointer (some ⟨g, 0, none⟩)) ∧ Below w.heap.size w w' ∧ Cur w' g := by
  have lx : Hid (zs.length = n) := by show zs.length = n; simpa using hx.1
  go_enter Tryd.func27, Tryd.ntmps27
  go_wp2
  go_loop [3, 4] (fun p i => ∃ (k : Nat) (h : Int), k ≤ n ∧ i = .int .i64 k ∧ p = .int .i64 h ∧ 0 ≤ h ∧ h ≤ 1073741823) (fun _ i => n - (intOf i).toNat)
  case atStart => exact ⟨0, _, Nat.zero_le _, rfl, rfl, by omega, by omega⟩
  case round =>
    obtain ⟨k, h, hk, rfl, rfl, h0, h1⟩ := hrel
    by_cases hlt : k < n
    · by_cases h4 : k < 4000
      · obtain ⟨b0, off0, rfl, hab, hcx⟩ := hx.num hlt
        have hl1 : k < zs.length := by rw [lx.out]; exact hlt
        replace hcx := hcx hl1
        obtain ⟨hv1, hv2⟩ := hz zs[k] (List.getElem_mem _)
        generalize zs[k] = x at *
        have hb := and_in (h * 137 + x + 11) 1073741823 (by omega)
        clear hx hz
        go_wp2
        go_round
        case rel => exact ⟨k + 1, _, by omega, by go_num, rfl, hb.1, hb.2⟩
        case measure => simp [intOf]; omega
      · go_wp2
        go_ret
        refine ⟨w.heap.size, Nat.le_refl _, rfl, (Below.refl _ _).alloc (Nat.le_refl _) _, A, n, c, zs, 0, h, ?_, ?_, Nat.zero_le _, ?_, hz, ?_, ?_⟩
        · exact alloc_new _ _
        · simp [maxLen]; omega
        · exact hx.keep fun p hp => ((Below.refl w.heap.size w).alloc (Nat.le_refl _) _).cell hp
        · omega
        · omega
    · go_wp2
      go_ret
      refine ⟨w.heap.size, Nat.le_refl _, rfl, (Below.refl _ _).alloc (Nat.le_refl _) _, A, n, c, zs, 0, h, ?_, ?_, Nat.zero_le _, ?_, hz, ?_, ?_⟩
      · exact alloc_new _ _
      · simp [maxLen]; omega
      · exact hx.keep fun p hp => ((Below.refl w.heap.size w).alloc (Nat.le_refl _) _).cell hp
      · omega
      · omega

theorem emod_in {x m : Int} (hm : 1 ≤ m) : 0 ≤ x % m ∧ x % m < m := ⟨Int.emod_nonneg _ (by omega), Int.emod_lt_of_pos _ (by omega)⟩

set_option maxHeartbeats 400000 in
theorem l1Below_any (w : World) (g : Nat) (hc : Cur w g) (m : Int) (hm : 1 ≤ m) (hm2 : m ≤ 9223372036854775807) :
    Calls Tryd.prog 47 #[.pointer (some ⟨g, 0, none⟩), .int .i64 m] w fun e w' => ∃ x : Int, 0 ≤ x ∧ x < m ∧ e = .returned (.int .i64 x) ∧ Draws g w w' := by
  have hd := Draws.refl hc
  by_cases hs : m ≤ 256
  · go_enter Tryd.func47, Tryd.ntmps47
    go_wp2_with (go_at_call 62; refine (l1Byte_any _ g hd.2).mono ?_; rintro e w1 ⟨x, hx1, hx2, rfl, d⟩; replace hd := hd.trans d; have hq := emod_in (x := x) hm; clear d)
    go_ret
    exact ⟨_, hq.1, hq.2, rfl, hd⟩
  · go_enter Tryd.func47, Tryd.ntmps47
    go_wp2_with (fail)
    go_at_call 62
    refine (l1Byte_any _ g hd.2).mono ?_
    rintro e w1 ⟨x, hx1, hx2, rfl, d⟩
    replace hd := hd.trans d
    clear d
    go_wp2_with (fail)
    go_at_call 62
    refine (l1Byte_any _ g hd.2).mono ?_
    rintro e w2 ⟨y, hy1, hy2, rfl, d⟩
    replace hd := hd.trans d
    clear d
    go_wp2_with (fail)
    go_at_call 62
    refine (l1Byte_any _ g hd.2).mono ?_
    rintro e w3 ⟨z, hz1, hz2, rfl, d⟩
    replace hd := hd.trans d
    clear d
    have hq := emod_in (x := x * 65536 + y * 256 + z) hm
    go_wp2
    go_ret
    exact ⟨_, hq.1, hq.2, rfl, hd⟩

set_option maxHeartbeats 400000 in
theorem l1Once_any (w : World) (g : Nat) (hc : Cur w g) (m : Int) (hm : 1 ≤ m) (hm2 : m ≤ 9223372036854775807) :
    Calls Tryd.prog 28 #[.pointer (some ⟨g, 0, none⟩), .int .i64 m] w fun e w' => ∃ b : Bool, e = .returned (.bool b) ∧ Draws g w w' := by
  have hd := Draws.refl hc
  go_enter Tryd.func28, Tryd.ntmps28
  go_wp2_with (go_at_call 47; refine (l1Below_any _ g hd.2 m hm hm2).mono ?_; rintro e w1 ⟨x, hx1, hx2, rfl, d⟩; replace hd := hd.trans d; clear d)
  all_goals go_ret
  all_goals exact ⟨_, rfl, hd⟩

set_option maxHeartbeats 400000 in
theorem l1Int_any (w : World) (g : Nat) (hc : Cur w g) (b n : Nat) (zs : List Int) (hb : b ≠ g) (hn : 1 ≤ n) (hn2 : n ≤ 256) (hl : zs.length = n) (hcell : ∀ j v, (zs.map (Value.int .i64))[j]? = some v → w.cell? ⟨b, j, none⟩ = some v) (hlt : b < w.heap.size) :
    Calls Tryd.prog 48 #[.pointer (some ⟨g, 0, none⟩), .slice (some ⟨b, 0, none⟩) n n] w fun e w' => ∃ z ∈ zs, e = .returned (.int .i64 z) ∧ Draws g w w' := by
  have hd := Draws.refl hc
  go_enter Tryd.func48, Tryd.ntmps48
  go_wp2_with (fail)
  go_at_call 47
  refine (l1Below_any _ g hd.2 n (by omega) (by omega)).mono ?_
  rintro e w1 ⟨x, hx1, hx2, rfl, d⟩
  obtain ⟨k, rfl⟩ := Int.eq_ofNat_of_zero_le hx1
  have hk : k < n := by omega
  have hkz : k < zs.length := by omega
  have hcx : w1.cell? ⟨b, k, none⟩ = some (.int .i64 zs[k]) := by
    rw [World.cell?_of_block (w := w) (d.1.block b hlt hb)]
    exact hcell k _ (by rw [List.getElem?_map, List.getElem?_eq_getElem hkz]; rfl)
  have hmem : zs[k] ∈ zs := List.getElem_mem _
  generalize zs[k] = z at *
  go_wp2
  go_ret
  exact ⟨z, hmem, rfl, hd.trans d⟩

set_option maxHeartbeats 400000 in
theorem l1Str_any (w : World) (g : Nat) (hc : Cur w g) (b n : Nat) (zs : List ByteArray) (hb : b ≠ g) (hn : 1 ≤ n) (hn2 : n ≤ 256) (hl : zs.length = n) (hcell : ∀ j v, (zs.map Value.string)[j]? = some v → w.cell? ⟨b, j, none⟩ = some v) (hlt : b < w.heap.size) :
    Calls Tryd.prog 29 #[.pointer (some ⟨g, 0, none⟩), .slice (some ⟨b, 0, none⟩) n n] w fun e w' => ∃ z ∈ zs, e = .returned (.string z) ∧ Draws g w w' := by
  have hd := Draws.refl hc
  go_enter Tryd.func29, Tryd.ntmps29
  go_wp2_with (fail)
  go_at_call 47
  refine (l1Below_any _ g hd.2 n (by omega) (by omega)).mono ?_
  rintro e w1 ⟨x, hx1, hx2, rfl, d⟩
  obtain ⟨k, rfl⟩ := Int.eq_ofNat_of_zero_le hx1
  have hk : k < n := by omega
  have hkz : k < zs.length := by omega
  have hcx : w1.cell? ⟨b, k, none⟩ = some (.string zs[k]) := by
    rw [World.cell?_of_block (w := w) (d.1.block b hlt hb)]
    exact hcell k _ (by rw [List.getElem?_map, List.getElem?_eq_getElem hkz]; rfl)
  have hmem : zs[k] ∈ zs := List.getElem_mem _
  generalize zs[k] = z at *
  go_wp2
  go_ret
  exact ⟨z, hmem, rfl, hd.trans d⟩

end Go.Proofs.YtmfaihelphfbgaaDoor
